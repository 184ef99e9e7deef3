/- Code: branches, loops. -/
import Derived.Test.YtinkjpfkemkhaaaDoorEngV1
set_option linter.unusedVariables false
set_option linter.unusedSimpArgs false
namespace Go.Eng

inductive Ex where
  | normal
  | exit (id : Nat)
  | ret
def Ex.to : Ex → Exit
  | .normal => .normal
  | .exit id => .exit id
  | .ret => .ret

structure LS : Type 1 where
  ι : Type
  inv : ι → Prop
  regs : ι → List (Nat × AV)
  als : List (Nat × Nat)
  meas : ι → Nat
  sub : ι → List (Nat × LS) := fun _ => []

/- what holds inside a loop: its own conditions first -/
def LofL : List (Nat × LS) → (Nat → Option LS) → Nat → Option LS
  | [], L => L
  | (g, S) :: l, L => fun f => match Nat.beq g f with
    | true => some S
    | false => LofL l L f

def enterL : List (Nat × AV) → List AV → (List AV → Prop) → Prop
  | [], regs, K => K regs
  | (j, e) :: rest, regs, K => hand1 false e regs (opAV regs (.tmp j)) fun regs' => enterL rest regs' K

def aliasOk (regs : List AV) : List (Nat × Nat) → Prop
  | [] => True
  | (s, j) :: rest => (match opAV regs (.tmp s), opAV regs (.tmp j) with
      | .al a, .al b => match Nat.beq a b with
        | true => True
        | false => False
      | _, _ => False) ∧ aliasOk regs rest

def setAll : List AV → List Nat → List AV → List AV
  | regs, j :: js, a :: as => setAll (regs.set j a) js as
  | regs, _, _ => regs
def aliasL : List AV → List (Nat × Nat) → List AV
  | regs, [] => regs
  | regs, (s, j) :: rest => aliasL (regs.set s (opAV regs (.tmp j))) rest

def headSt (N : Nat) (L : LS) (i : L.ι) : St :=
  ⟨aliasL (setAll (List.replicate N .top) ((L.regs i).map (·.1)) (stampL 0 ((L.regs i).map (·.2))).1) L.als, (stampL 0 ((L.regs i).map (·.2))).2⟩

def enter (s : St) (L : LS) (i : L.ι) : Prop := enterL (L.regs i) s.regs (fun _ => True) ∧ aliasOk s.regs L.als

theorem enterL_ok {η : Nat → Value} {w : World} {n : Nat} {a : Act} : ∀ (es : List (Nat × AV)) (regs : List AV) (K : List AV → Prop), enterL es regs K →
    ∀ (Z B : FP), relSL Z η w regs a.tmps.toList B → idsBL n regs → (∀ b, B b → Z b) →
    ∃ Z' A', rel0L Z' w (es.map (·.2)) (es.map fun p => a.eval (.tmp p.1)) A' ∧ (∀ b, Z' b → Z b) ∧ (∀ b, Z b → ¬ Z' b → B b) ∧ (∀ b, A' b → B b) ∧ (∀ b, A' b → Z' b)
  | [], regs, K, h, Z, B, hR, hI, hB => ⟨Z, fun _ => False, by simp [rel0L, emp], fun _ h => h, fun _ h h' => (h' h).elim, fun _ h => h.elim, fun _ h => h.elim⟩
  | (j, e) :: es, regs, K, h, Z, B, hR, hI, hB => by
    unfold enterL at h
    obtain ⟨Z1, A1, B1, r1, ho⟩ := hand1_ok e regs _ _ h Z a.tmps.toList (a.eval (.tmp j)) B (fun _ => False) B hR hI (opAV_rel hR (.tmp j)) (opAV_ids hI (.tmp j)) (join_emp_left B)
    obtain ⟨Z2, A2, k1, k2, k3, k4, k5⟩ := enterL_ok es r1 K ho.k Z1 B1 ho.rel ho.ids (fun b hb => ho.ownB rfl b hb (hB b (ho.part b (.inr hb))))
    refine ⟨Z2, fun b => A1 b ∨ A2 b, ?_, fun b hb => ho.zz b (k2 b hb), ?_, ?_, ?_⟩
    · simp only [List.map_cons, rel0L]
      refine ⟨_, _, A1, A2, rfl, ⟨fun _ => Iff.rfl, fun b x y => ho.dis b x (k4 b y)⟩, rel0_mono (zmono k2) _ _ _ (fun _ _ => rfl) ho.got, k1⟩
    · intro b hz hz2
      by_cases hz1 : Z1 b
      · exact ho.part b (.inr (k3 b hz1 hz2))
      · exact ho.gone b hz hz1
    · intro b hb
      exact hb.elim (fun hb => ho.part b (.inl hb)) (fun hb => ho.part b (.inr (k4 b hb)))
    · intro b hb
      rcases hb with hb | hb
      · have hz1 := ho.ownA b hb (hB b (ho.part b (.inl hb)))
        exact Classical.byContradiction fun hn => ho.dis b hb (k3 b hz1 hn)
      · exact k5 b hb

theorem setAll_ok {Z : FP} {η : Nat → Value} {w : World} {n : Nat} {a : Act} : ∀ (js : List Nat) (as regs : List AV) (A B : FP), relSL Z η w regs a.tmps.toList B → idsBL n regs → js.length = as.length →
    relSL Z η w as (js.map fun j => a.eval (.tmp j)) A → idsBL n as → (∀ b, A b → ¬ B b) →
    ∃ S, (∀ b, S b → A b ∨ B b) ∧ relSL Z η w (setAll regs js as) a.tmps.toList S ∧ idsBL n (setAll regs js as)
  | [], as, regs, A, B, hr, hi, hl, ha, hai, hd => ⟨B, fun _ h => .inr h, by simpa [setAll] using hr, by simpa [setAll] using hi⟩
  | j :: js, [], regs, A, B, hr, hi, hl, ha, hai, hd => by simp at hl
  | j :: js, x :: as, regs, A, B, hr, hi, hl, ha, hai, hd => by
    simp only [List.map_cons, relSL] at ha
    obtain ⟨v, cs', A1, A2, e, hj, h1, h2⟩ := ha
    simp only [List.cons.injEq] at e
    obtain ⟨rfl, rfl⟩ := e
    simp only [setAll]
    rcases Nat.lt_or_ge j regs.length with hlt | hge
    · obtain ⟨S1, hS1, hr1⟩ := relSL_put_own hr hlt h1 (fun b hb => hd b ((hj.1 b).2 (.inl hb)))
      have hset : a.tmps.toList.set j (a.eval (.tmp j)) = a.tmps.toList := by
        have hlen := relSL_len _ _ _ hr
        have hj2 : j < a.tmps.size := by simp at hlen; omega
        apply List.ext_getElem?
        intro i
        rw [List.getElem?_set]
        split
        · rename_i h1; subst h1
          simp [Act.eval, hj2, Array.getD_eq_getD_getElem?]
        · rfl
      rw [hset] at hr1
      obtain ⟨S, hS, g1, g2⟩ := setAll_ok js as _ A2 S1 hr1 (idsBL_set _ _ _ hi hai.1) (by simpa using hl) h2 hai.2 (fun b h h' => (hS1 b h').elim (fun h' => hd b ((hj.1 b).2 (.inr h)) h') (fun h' => hj.2 b h' h))
      exact ⟨S, fun b hb => (hS b hb).elim (fun h => .inl ((hj.1 b).2 (.inr h))) (fun h => (hS1 b h).elim .inr (fun h => .inl ((hj.1 b).2 (.inl h)))), g1, g2⟩
    · rw [List.set_eq_of_length_le hge]
      obtain ⟨S, hS, g1, g2⟩ := setAll_ok js as regs A2 B hr hi (by simpa using hl) h2 hai.2 (fun b h h' => hd b ((hj.1 b).2 (.inr h)) h')
      exact ⟨S, fun b hb => (hS b hb).elim (fun h => .inl ((hj.1 b).2 (.inr h))) .inr, g1, g2⟩

theorem aliasL_ok {Z : FP} {η : Nat → Value} {w : World} {n : Nat} {a : Act} : ∀ (als : List (Nat × Nat)) (regs : List AV) (B : FP), relSL Z η w regs a.tmps.toList B → idsBL n regs →
    (∀ p ∈ als, a.eval (.tmp p.1) = a.eval (.tmp p.2)) → ∃ S, (∀ b, S b → B b) ∧ relSL Z η w (aliasL regs als) a.tmps.toList S ∧ idsBL n (aliasL regs als)
  | [], regs, B, hr, hi, h => ⟨B, fun _ h => h, hr, hi⟩
  | (s, j) :: als, regs, B, hr, hi, h => by
    simp only [aliasL]
    have hv := opAV_rel hr (.tmp j)
    have he := h (s, j) (by simp)
    simp only at he
    rw [← he] at hv
    obtain ⟨S1, hS1, hr1⟩ := relSL_put hr s hv
    have hset : s < regs.length → a.tmps.toList.set s (a.eval (.tmp s)) = a.tmps.toList := by
      intro hlt
      have hlen := relSL_len _ _ _ hr
      have hj2 : s < a.tmps.size := by simp at hlen; omega
      apply List.ext_getElem?
      intro i
      rw [List.getElem?_set]
      split
      · rename_i h1; subst h1
        simp [Act.eval, hj2, Array.getD_eq_getD_getElem?]
      · rfl
    have hr2 : relSL Z η w (regs.set s (opAV regs (.tmp j))) a.tmps.toList S1 := by
      rcases Nat.lt_or_ge s regs.length with hlt | hge
      · rw [hset hlt] at hr1; exact hr1
      · rw [List.set_eq_of_length_le (l := a.tmps.toList) (by rw [relSL_len _ _ _ hr]; exact hge)] at hr1; exact hr1
    obtain ⟨S, hS, g1, g2⟩ := aliasL_ok als _ S1 hr2 (idsBL_set _ _ _ hi (opAV_ids hi (.tmp j))) (fun p hp => h p (by simp [hp]))
    exact ⟨S, fun b hb => hS1 b (hS b hb), g1, g2⟩

theorem alias_eq {Z : FP} {η : Nat → Value} {w : World} {a : Act} {regs : List AV} {B : FP} (hr : relSL Z η w regs a.tmps.toList B) : ∀ als : List (Nat × Nat), aliasOk regs als →
    ∀ p ∈ als, a.eval (.tmp p.1) = a.eval (.tmp p.2)
  | [], _, p, hp => by simp at hp
  | (s, j) :: als, h, p, hp => by
    simp only [aliasOk] at h
    rcases List.mem_cons.1 hp with rfl | hp
    · have h1 := opAV_rel hr (.tmp s)
      have h2 := opAV_rel hr (.tmp j)
      have h := h.1
      split at h
      · rename_i x y hx hy
        split at h
        · rename_i hb
          have hb := Nat.eq_of_beq_eq_true hb
          rw [hx] at h1; rw [hy] at h2
          simp only [relS] at h1 h2
          simp only
          rw [h1.1, h2.1, hb]
        · exact h.elim
      · exact h.elim
    · exact alias_eq hr als h.2 p hp

theorem tops_rel (Z : FP) (η : Nat → Value) (w : World) : ∀ (l : List Value), relSL Z η w (List.replicate l.length .top) l (fun _ => False)
  | [] => by simp [relSL, emp]
  | v :: l => by
    simp only [List.length_cons, List.replicate_succ, relSL]
    exact ⟨v, l, _, _, rfl, join_emp_left _, emp_false, tops_rel Z η w l⟩
theorem tops_ids (n : Nat) : ∀ N, idsBL n (List.replicate N .top)
  | 0 => trivial
  | N + 1 => ⟨trivial, tops_ids n N⟩

theorem enter_ok {C : Ctx} {s : St} {a : Act} {w : World} (h : Rel C s a w) {L : LS} {i : L.ι} (he : enter s L i) : Rel C (headSt a.tmps.size L i) a w := by
  obtain ⟨η, Z, T, hi⟩ := h
  obtain ⟨Z', A', k1, k2, k3, k4, k5⟩ := enterL_ok (L.regs i) s.regs _ he.1 Z T hi.rel hi.ids (fun b hb => (hi.own b hb).1)
  have hal := alias_eq hi.rel L.als he.2
  obtain ⟨p1, p2, η1, p3, p4⟩ := stampL_ok ((L.regs i).map (·.2)) 0 _ A' η k1
  have hst := p4 η1 (fun _ _ => rfl)
  have hst' := relSL_mono (n := (stampL 0 ((L.regs i).map (·.2))).2) (Z' := fun c => Z' c ∨ w.heap.size ≤ c) (w' := w) (η' := η1) (fun b hb hl => ⟨fun x => x.elim hb (fun x => by omega), rfl⟩) (fun _ _ => rfl) _ _ _ p2 (fun _ _ => rfl) hst
  have htop := tops_rel (fun c => Z' c ∨ w.heap.size ≤ c) η1 w a.tmps.toList
  obtain ⟨S1, hS1, q1, q2⟩ := setAll_ok (a := a) (n := (stampL 0 ((L.regs i).map (·.2))).2) ((L.regs i).map (·.1)) _ _ A' (fun _ => False) htop (tops_ids _ _) (by
    have : ∀ (l : List AV) (n : Nat), (stampL n l).1.length = l.length := by
      intro l
      induction l with
      | nil => intro n; rfl
      | cons x l ih => intro n; simp [stampL, ih]
    rw [this]; simp) (by rw [List.map_map]; exact hst') p2 (fun b _ h => h)
  obtain ⟨S2, hS2, r1, r2⟩ := aliasL_ok L.als _ S1 q1 q2 hal
  have := hi.next (A1 := fun _ => False) (Z1 := Z') k2 k3 (fun _ h => h.elim) (w' := w) ⟨rfl, rfl, rfl, Nat.le_refl _, fun _ _ _ => rfl⟩ (regs' := (headSt a.tmps.size L i).regs) (n' := (headSt a.tmps.size L i).nx) (η' := η1) (S' := S2) (a' := a) rfl
    (by simpa [headSt] using r1) (by simpa [headSt] using r2) (fun b hb => by
      have hA : A' b := (hS1 b (hS2 b hb)).resolve_right (fun x => x)
      exact ⟨.inl (k5 b hA), .inl (k4 b hA), (hi.own b (k4 b hA)).2.1⟩)
  exact ⟨η1, _, S2, this⟩

def firstReg : Code → Nat
  | .region id _ _ => id
  | .seq x _ => firstReg x
  | .block _ x => firstReg x
  | .loop x => firstReg x
  | _ => 0

def dstsOk (js : List Nat) : Code → Bool
  | .region _ ops _ => ops.toList.all fun o => avoids js o.dst
  | .seq x y => dstsOk js x && dstsOk js y
  | .cond _ x y => dstsOk js x && dstsOk js y
  | .block _ x => dstsOk js x
  | .loop x => dstsOk js x
  | _ => true

def vcCode (P : Program) (Γ : FuncId → Nat → Option Sig) (E : TypeId → Option ES) (ov : Bool) (N : Nat) (L : Nat → Option LS) : Code → St → (Ex → St → Prop) → Prop
  | .skip, s, K => K .normal s
  | .label _, s, K => K .normal s
  | .ret, s, K => K .ret s
  | .exit id, s, K => K (.exit id) s
  | .region id ops draw, s, K => match draw with
    | false => vcIdx P Γ E ov ops (List.range ops.size) s (K .normal)
    | true => match L (100000 + id) with
      | some D => P.follows .mixedOrders = true ∧ vcAny P Γ E ov ops ops.size (Array.replicate ops.size false) s (fun s' => ∃ i, D.inv i ∧ enter s' D i) ∧ ∀ i, D.inv i → K .normal (headSt N D i)
      | none => P.follows .mixedOrders = true ∧ Region.lexB .any ops = true ∧ vcQ P Γ ov ops ops.toList s (K .normal)
  | .seq x y, s, K => match L (200000 + firstReg y) with
    | some D => (vcCode P Γ E ov N L x s fun e s' => match e with
      | .normal => ∃ i, D.inv i ∧ enter s' D i
      | .exit i => K (.exit i) s'
      | .ret => K .ret s') ∧ ∀ i, D.inv i → vcCode P Γ E ov N (LofL (D.sub i) L) y (headSt N D i) K
    | none => vcCode P Γ E ov N L x s fun e s' => match e with
      | .normal => vcCode P Γ E ov N L y s' K
      | .exit i => K (.exit i) s'
      | .ret => K .ret s'
  | .cond c x y, s, K => match c with
    | .tmp d => match s.regs[d]? with
      | some (.bool b) => bcase b (vcCode P Γ E ov N L x ⟨s.regs.set d (.bool true), s.nx⟩ K) (vcCode P Γ E ov N L y ⟨s.regs.set d (.bool false), s.nx⟩ K)
      | _ => False
    | _ => False
  | .block id x, s, K => vcCode P Γ E ov N L x s fun e s' => match e with
    | .normal => K .normal s'
    | .exit i => match Nat.beq i id with
      | true => K .normal s'
      | false => K (.exit i) s'
    | .ret => K .ret s'
  | .loop x, s, K => match L (firstReg x) with
    | some S => (∃ i, S.inv i ∧ enter s S i) ∧ ∀ i, S.inv i → vcCode P Γ E ov N (LofL (S.sub i) L) x (headSt N S i) fun e s' => match e with
      | .normal => ∃ i', S.inv i' ∧ S.meas i' < S.meas i ∧ enter s' S i'
      | .exit k => K (.exit k) s'
      | .ret => K .ret s'
    | none => False
  | _, _, _ => False

theorem least {p : Nat → Prop} (h : ∃ n, p n) : ∃ n, p n ∧ ∀ m, p m → n ≤ m := by
  obtain ⟨n, hn⟩ := h
  induction n using Nat.strongRecOn with
  | _ n ih =>
    by_cases hm : ∃ m, m < n ∧ p m
    · obtain ⟨m, h1, h2⟩ := hm; exact ih m h1 h2
    · exact ⟨n, hn, fun m hp => Nat.le_of_not_lt fun hl => hm ⟨m, hl, hp⟩⟩

theorem vcCode_ok {P : Program} {Γ : FuncId → Nat → Option Sig} (hΓ : ∀ f k S, Γ f k = some S → Contract P f S) {E : TypeId → Option ES} {ov : Bool} {C : Ctx} {js : List Nat} {a0 : Act} :
    ∀ (c : Code) (L : Nat → Option LS) (s : St) (K : Ex → St → Prop) (Q : Exit → Act → World → Prop) (a : Act) (w : World), vcCode P Γ E ov a0.tmps.size L c s K → dstsOk js c = true → Rel C s a w → Fixed js a0 a →
    (∀ e s' a' w', K e s' → Rel C s' a' w' → Fixed js a0 a' → Q e.to a' w') → c.wp P Q a w
  | .skip, L, s, K, Q, a, w, h, hd, hr, hf, hQ => wp_skip (hQ .normal s a w h hr hf)
  | .label _, L, s, K, Q, a, w, h, hd, hr, hf, hQ => wp_label (hQ .normal s a w h hr hf)
  | .ret, L, s, K, Q, a, w, h, hd, hr, hf, hQ => wp_ret (hQ .ret s a w h hr hf)
  | .exit id, L, s, K, Q, a, w, h, hd, hr, hf, hQ => wp_exit (hQ (.exit id) s a w h hr hf)
  | .region id ops draw, L, s, K, Q, a, w, h, hd, hr, hf, hQ => by
    simp only [vcCode] at h
    cases draw
    · simp only at h
      refine wp_region (vcIdx_ok hΓ (js := js) (a0 := a0) ?_ _ s _ a w h hr hf fun s' a' w' hk hr' hf' => hQ .normal s' a' w' hk hr' hf')
      intro i o ho
      simp only [dstsOk] at hd
      have hmem : o ∈ ops.toList := List.mem_of_getElem? (i := i) (by simpa [Array.getElem?_toList] using ho)
      exact List.all_eq_true.1 hd o hmem
    · simp only at h
      split at h
      · rename_i D hD
        obtain ⟨h1, h2, h3⟩ := h
        refine vcAll_ok hΓ (js := js) (a0 := a0) h1 h2 ?_ hr hf fun s' a' w' hk hr' hf' => ?_
        · intro i o ho
          simp only [dstsOk] at hd
          have hmem : o ∈ ops.toList := List.mem_of_getElem? (i := i) (by simpa [Array.getElem?_toList] using ho)
          exact List.all_eq_true.1 hd o hmem
        · obtain ⟨i, hi, he⟩ := hk
          have hh := enter_ok hr' he
          rw [hf'.1] at hh
          exact hQ .normal _ a' w' (h3 i hi) hh hf'
      obtain ⟨h1, h2, h3⟩ := h
      simp only [dstsOk] at hd
      exact vcDraw_ok hΓ (js := js) (a0 := a0) h1 h2 h3 (fun o ho => List.all_eq_true.1 hd o ho) hr hf fun s' a' w' hk hr' hf' => hQ .normal s' a' w' hk hr' hf'
  | .seq x y, L, s, K, Q, a, w, h, hd, hr, hf, hQ => by
    simp only [vcCode] at h
    simp only [dstsOk, Bool.and_eq_true] at hd
    split at h
    · rename_i D hD
      obtain ⟨h1, h2⟩ := h
      refine wp_seq (vcCode_ok hΓ x L s _ _ a w h1 hd.1 hr hf ?_)
      intro e s' a' w' hk hr' hf'
      cases e with
      | normal =>
        obtain ⟨i, hi, he⟩ := hk
        have hh := enter_ok hr' he
        rw [hf'.1] at hh
        exact vcCode_ok hΓ y _ _ K Q a' w' (h2 i hi) hd.2 hh hf' hQ
      | exit i => exact hQ (.exit i) s' a' w' hk hr' hf'
      | ret => exact hQ .ret s' a' w' hk hr' hf'
    · refine wp_seq (vcCode_ok hΓ x L s _ _ a w h hd.1 hr hf ?_)
      intro e s' a' w' hk hr' hf'
      cases e with
      | normal => exact vcCode_ok hΓ y L s' K Q a' w' hk hd.2 hr' hf' hQ
      | exit i => exact hQ (.exit i) s' a' w' hk hr' hf'
      | ret => exact hQ .ret s' a' w' hk hr' hf'
  | .cond c x y, L, s, K, Q, a, w, h, hd, hr, hf, hQ => by
    simp only [vcCode] at h
    simp only [dstsOk, Bool.and_eq_true] at hd
    split at h
    · rename_i d
      split at h
      · rename_i b hb
        obtain ⟨hr1, ht⟩ := hr.know hb
        have hc : a.eval (.tmp d) = .bool b := by simp [Act.eval, Array.getD_eq_getD_getElem?, ht]
        unfold bcase at h
        cases b
        · exact wp_cond_false hc (vcCode_ok hΓ y L _ K Q a w h hd.2 hr1 hf hQ)
        · exact wp_cond_true hc (vcCode_ok hΓ x L _ K Q a w h hd.1 hr1 hf hQ)
      · exact h.elim
    · exact h.elim
  | .block id x, L, s, K, Q, a, w, h, hd, hr, hf, hQ => by
    simp only [vcCode] at h
    simp only [dstsOk] at hd
    refine wp_block (vcCode_ok hΓ x L s _ _ a w h hd hr hf ?_)
    intro e s' a' w' hk hr' hf'
    cases e with
    | normal => exact hQ .normal s' a' w' hk hr' hf'
    | exit i =>
      simp only [Ex.to, Exit.inBlock]
      simp only at hk
      split at hk
      · rename_i hb
        rw [if_pos (Nat.eq_of_beq_eq_true hb)]
        exact hQ .normal s' a' w' hk hr' hf'
      · rename_i hb
        rw [if_neg (Nat.ne_of_beq_eq_false hb)]
        exact hQ (.exit i) s' a' w' hk hr' hf'
    | ret => exact hQ .ret s' a' w' hk hr' hf'
  | .loop x, L, s, K, Q, a, w, h, hd, hr, hf, hQ => by
    simp only [vcCode] at h
    simp only [dstsOk] at hd
    split at h
    · rename_i S hS
      obtain ⟨⟨i0, hi0, he0⟩, hround⟩ := h
      let p : Act → World → Nat → Prop := fun a w n => ∃ i, S.inv i ∧ S.meas i = n ∧ Rel C (headSt a0.tmps.size S i) a w ∧ Fixed js a0 a
      have hent : ∀ (s : St) (a : Act) (w : World) (i : S.ι), Rel C s a w → Fixed js a0 a → enter s S i → Rel C (headSt a0.tmps.size S i) a w := by
        intro s a w i hr hf he
        have := enter_ok hr he
        rwa [hf.1] at this
      refine wp_loop (fun a w => ∃ n, p a w n) (fun a w => open Classical in if h : ∃ n, p a w n then (least h).choose else 0) ⟨_, i0, hi0, rfl, hent s a w i0 hr hf he0, hf⟩ ?_
      intro a w hI
      have hμ : (open Classical in if h : ∃ n, p a w n then (least h).choose else 0) = (least hI).choose := dif_pos hI
      obtain ⟨⟨i, h1, h2, h3, h4⟩, hmin⟩ := (least hI).choose_spec
      refine vcCode_ok hΓ x _ _ _ _ a w (hround i h1) hd h3 h4 ?_
      intro e s' a' w' hk hr' hf'
      cases e with
      | normal =>
        obtain ⟨i', g1, g2, g3⟩ := hk
        have hp' : p a' w' (S.meas i') := ⟨i', g1, rfl, hent s' a' w' i' hr' hf' g3, hf'⟩
        refine ⟨⟨_, hp'⟩, ?_⟩
        have hμ' : (open Classical in if h : ∃ n, p a' w' n then (least h).choose else 0) = (least ⟨_, hp'⟩).choose := dif_pos ⟨_, hp'⟩
        have h5 := (least ⟨_, hp'⟩).choose_spec.2 _ hp'
        simp only [hμ, hμ']
        rw [h2] at g2
        exact Nat.lt_of_le_of_lt h5 g2
      | exit k => exact hQ (.exit k) s' a' w' hk hr' hf'
      | ret => exact hQ .ret s' a' w' hk hr' hf'
    · exact h.elim
  | .rangeFunc _ _ _ _, L, s, K, Q, a, w, h, hd, hr, hf, hQ => h.elim
  | .scope _, L, s, K, Q, a, w, h, hd, hr, hf, hQ => h.elim
  | .goto _, L, s, K, Q, a, w, h, hd, hr, hf, hQ => h.elim
  | .refuse _, L, s, K, Q, a, w, h, hd, hr, hf, hQ => h.elim

end Go.Eng
