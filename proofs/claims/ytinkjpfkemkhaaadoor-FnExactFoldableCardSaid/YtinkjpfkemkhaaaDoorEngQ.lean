/- The conditions of append and of stores. -/
import Derived.Test.YtinkjpfkemkhaaaDoorEngP
set_option linter.unusedVariables false
set_option linter.unusedSimpArgs false
namespace Go.Eng

def leafy {α : Type} (f : α → List AV) : Prop := ∀ x, (f x).all isLeaf = true
def room (n bytes : Nat) : Prop := n * bytes ≤ 2 ^ 46

def appInto (sz bytes : Nat) (nx : Nat) (dst : Option Nat) {α : Type} (f : α → List AV) (xs : List α) (regs : List AV) (x : AV) (K : St → Prop) : Prop :=
  match x with
  | .nil => leafy f ∧ room xs.length bytes ∧ K ⟨setR regs dst (.sl true nx sz α f xs), nx + 1⟩
  | .sl false _ sz' α' f' ys => ∃ zs : List α, AV.sl false 0 sz' α' f' ys = AV.sl false 0 sz α f zs ∧ leafy f ∧ room (xs.length + zs.length) bytes ∧
      K ⟨setR regs dst (.sl true nx sz α f (xs ++ zs)), nx + 1⟩
  | .al id => match takeL id regs with
    | some (.sl true _ sz' α' f' ys, regs') => ∃ zs : List α, AV.sl true 0 sz' α' f' ys = AV.sl true 0 sz α f zs ∧ leafy f ∧ room (xs.length + zs.length) bytes ∧
        K ⟨setR regs' dst (.sl true nx sz α f (xs ++ zs)), nx + 1⟩
    | _ => False
  | _ => False

def appOk (P : Program) (ts : Array TypeId) : Option (TypeId × Nat × Nat) :=
  match ts[0]?, ts[1]? with
  | some t, some tx => match elemOfT P t, P.underlying tx with
    | some (e, sz), some (.slice _) => match P.info? e with
      | some i => match i.zero with
        | some z => match Nat.beq z.cells.size sz, Nat.blt 0 sz, Nat.blt 0 i.bytes with
          | true, true, true => some (t, sz, i.bytes)
          | _, _, _ => none
        | none => none
      | none => none
    | _, _ => none
  | _, _ => none

def vcAppend (P : Program) (E : TypeId → Option ES) (s : St) (dst : Option Nat) (ts : Array TypeId) (sv x : AV) (K : St → Prop) : Prop :=
  match appOk P ts with
  | some (t, sz, bytes) => match sv with
    | .nil => match E t with
      | some es => appInto sz bytes s.nx dst es.f ([] : List es.α) s.regs x K
      | none => False
    | .al id => match takeL id s.regs with
      | some (.sl true _ sz' α f xs, regs1) => match Nat.beq sz' sz with
        | true => appInto sz bytes s.nx dst f xs regs1 x K
        | false => False
      | _ => False
    | _ => False
  | none => False

theorem appInto_ok {P : Program} {ts : Array TypeId} {t : TypeId} {sz bytes : Nat} (ho : appOk P ts = some (t, sz, bytes)) (ty : TypeId) {s : St} {dst : Option Nat} {α : Type} {f : α → List AV} {xs : List α}
    {regs1 : List AV} {x : AV} {K : St → Prop} (h : appInto sz bytes s.nx dst f xs regs1 x K) {C : Ctx} {a : Act} {w : World} {η : Nat → Value} {Z T : FP} (hi : Inst C s a w η Z T)
    {A1 B1 : FP} (hj : join T A1 B1) {i : Nat} {sv xv : Value} (hs : rel0 Z w (.sl true i sz α f xs) sv A1) (hr : relSL Z η w regs1 a.tmps.toList B1) (hids : idsBL s.nx regs1)
    (hx : relS Z η w x xv (fun _ => False)) :
    ∃ u w' s', (Builtin.append_ ts ty #[sv, xv]).run P w = .ok u w' ∧ K s' ∧ Rel C s' (a.put dst u) w' := by
  unfold appOk at ho
  split at ho
  · rename_i t' tx ht0 ht1
    split at ho
    · rename_i e sz' ex he hux
      obtain ⟨hu, inf, hinf, hsz⟩ := elemOfT_ok he
      split at ho
      · rename_i i' hi2
        rw [hinf] at hi2; simp only [Option.some.injEq] at hi2; subst hi2
        split at ho
        · rename_i z hz
          split at ho
          · rename_i hzs hpos hby
            simp only [Option.some.injEq, Prod.mk.injEq] at ho
            obtain ⟨rfl, rfl, rfl⟩ := ho
            have hzs := Nat.eq_of_beq_eq_true hzs
            have hpos : 0 < sz' := Nat.le_of_ble_eq_true hpos
            have hby : 0 < inf.bytes := Nat.le_of_ble_eq_true hby
            have hTo := hi.own
            -- the common part
            have core : ∀ (ys : List α) (new : List Value) (Ay B2 : FP) (regs2 : List AV),
                (∀ W : World, W.heap = w.heap → (Builtin.lenOf xv).run P W = .ok ys.length W) →
                (∀ W : World, W.heap = w.heap → (Builtin.firstCells sz' ys.length xv).run P W = .ok new.toArray W) → new.length = ys.length * sz' →
                Rows sz' (fun x cs A => rel0L Z w (f x) cs A) ys new Ay → (∀ b, Ay b ∨ B2 b → B1 b) → (∀ b, Ay b → B2 b → False) →
                relSL Z η w regs2 a.tmps.toList B2 → idsBL s.nx regs2 → leafy f → room (xs.length + ys.length) inf.bytes →
                K ⟨setR regs2 dst (.sl true s.nx sz' α f (xs ++ ys)), s.nx + 1⟩ → ∃ u w' s', (Builtin.append_ ts ty #[sv, xv]).run P w = .ok u w' ∧ K s' ∧ Rel C s' (a.put dst u) w' := by
              intro ys new Ay B2 regs2 h1 h2 h3 h4 h5 h6 h7 h8 h9 h10 h11
              have hcell : ∀ c ∈ new, isCell c := by
                have := (Rows_cells h9 ys new Ay h4).1
                rw [← h3, List.take_length] at this; exact this
              have hjA : join (fun b => A1 b ∨ Ay b) A1 Ay := ⟨fun _ => Iff.rfl, fun b p q => hj.2 b p (h5 b (.inl q))⟩
              have hAT : ∀ b, A1 b ∨ Ay b → T b := fun b hb => (hj.1 b).2 (hb.imp id (fun h => h5 b (.inl h)))
              obtain ⟨v, w', A', k1, k2, k3, k4⟩ := append_core (P := P) (ts := ts) (ty := ty) (i := i) (j := s.nx) (xs := xs) ht0 ht1 hu hux (fun k hk => by cases hk) hinf hsz hpos hz hzs hby hs h1 h2 h3 h4 hcell hjA h10
                (fun b hb => ⟨(hTo b (hAT b hb)).1, (hTo b (hAT b hb)).2.1⟩)
              refine ⟨v, w', _, k1, h11, ?_⟩
              refine hi.putOwn (A1 := fun b => A1 b ∨ Ay b) (η' := fun i => if i = s.nx then v else η i) (A' := A') h7 h8 (fun _ h => h) (fun _ h h' => (h' h).elim) hAT (fun b hb => (hj.1 b).2 (.inr (h5 b (.inr hb))))
                (fun b p q => p.elim (fun p => hj.2 b p (h5 b (.inr q))) (fun p => h6 b p q)) (fun b hb => (hTo b (hAT b hb)).1) (fun b hb => (hTo b ((hj.1 b).2 (.inr (h5 b (.inr hb))))).1)
                ⟨k2.os, k2.tape, k2.output, k2.size, fun b hb hn => k2.old b hb (fun x => hn (.inl x))⟩ (Nat.le_succ _) (fun i hi => if_neg (by omega)) ?_ ?_ k3 dst
              · simp only [relS]; exact ⟨fun _ => by simp, k4⟩
              · simp only [idsB]; intro _; exact Nat.lt_succ_self _
            unfold appInto at h
            split at h
            · obtain ⟨g1, g2, g3⟩ := h
              simp only [relS, rel0] at hx
              refine core [] [] (fun _ => False) B1 regs1 (fun W _ => by rw [hx.1]; rfl) (fun W _ => by rw [hx.1]; rfl) (by simp) emp_false (fun b hb => hb.resolve_left id) (fun _ h => h.elim) hr hids g1 (by simpa using g2) (by simpa using g3)
            · rename_i i2 szz α' f' ys
              obtain ⟨zs, he, g1, g2, g3⟩ := h
              simp only [relS] at hx
              have hx := sl_eq_own (j := 0) he hx.2
              simp only [rel0] at hx
              obtain ⟨a2, n2, c2, ev, hn, hc, hx⟩ := hx
              rcases hx with ⟨ho, _⟩ | ⟨_, _, hx⟩
              · cases ho
              · rcases hx with hx | ⟨b, off, arr, tyy, fr, ha, hzb, hb, hrows⟩
                · subst hx
                  refine core [] [] (fun _ => False) B1 regs1 (fun W _ => by rw [ev, hn]; rfl) (fun W _ => ?_) (by simp) emp_false (fun b hb => hb.resolve_left id) (fun _ h => h.elim) hr hids g1 (by simpa using g2) (by simpa using g3)
                  rw [ev]
                  cases a2 with
                  | none => rfl
                  | some ad2 => simp [Builtin.firstCells, loadCells, loadCellsFrom]
                · have hlr := Rows_len zs _ _ hrows
                  simp at hlr
                  have hle : off + zs.length * sz' ≤ arr.size ∨ zs.length * sz' = 0 := by omega
                  refine core zs ((arr.toList.drop off).take (zs.length * sz')) (fun _ => False) B1 regs1 (fun W _ => by rw [ev, hn]; rfl) (fun W hW => ?_) (by simp; omega)
                    (Rows_congr zs _ _ _ hrows (by rw [List.take_take, Nat.min_self])) (fun b hb => hb.resolve_left id) (fun _ h => h.elim) hr hids g1 g2 g3
                  rw [ev, ha]
                  have hb' : W.heap[b]? = some (.cells arr tyy fr) := by rw [hW]; exact hb
                  rcases hle with hle | hle
                  · exact run_firstCells (cap := c2) hb' hle
                  · simp [Builtin.firstCells, loadCells, loadCellsFrom, hle]
            · rename_i id
              split at h
              · rename_i i2 szz α' f' ys regs2 ht
                obtain ⟨zs, he, g1, g2, g3⟩ := h
                obtain ⟨A2, B2, hj2, hio, hro, hrr⟩ := takeL_ok regs1 _ B1 _ _ hr ht
                obtain ⟨q1, q2, q3⟩ := takeL_ids regs1 _ _ hids ht
                simp only [relS] at hx hro
                have hro := sl_eq_own (j := 0) he hro.2
                rw [← hx.1] at hro
                simp only [rel0] at hro
                obtain ⟨a2, n2, c2, ev, hn, hc, hro⟩ := hro
                rcases hro with ⟨_, hro⟩ | ⟨ho, _⟩
                · rcases hro with ⟨ha, hc0, _⟩ | ⟨b, off, arr, tyy, S1, ha, hb, hsize, hrows, hj3⟩
                  · have hz0 : zs = [] := List.length_eq_zero_iff.1 (by omega)
                    subst hz0
                    refine core [] [] (fun _ => False) B2 regs2 (fun W _ => by rw [ev, hn]; rfl) (fun W _ => by rw [ev, ha]; rfl) (by simp) emp_false (fun b hb => (hj2.1 b).2 (.inr (hb.resolve_left (fun x => x)))) (fun _ h => h.elim) hrr q3 g1 (by simpa using g2) (by simpa using g3)
                  · have hmul : zs.length * sz' ≤ c2 * sz' := Nat.mul_le_mul_right _ (by omega)
                    refine core zs ((arr.toList.drop off).take (zs.length * sz')) S1 B2 regs2 (fun W _ => by rw [ev, hn]; rfl) (fun W hW => ?_) (by simp; omega)
                      (Rows_congr zs _ _ _ hrows (by rw [List.take_take, Nat.min_self])) (fun b hb => (hj2.1 b).2 (hb.imp (fun h => (hj3.1 b).2 (.inr h)) (fun x => x))) (fun b p q => hj2.2 b ((hj3.1 b).2 (.inr p)) q) hrr q3 g1 g2 g3
                    rw [ev, ha]
                    exact run_firstCells (cap := c2) (by rw [hW]; exact hb) (by omega)
                · cases ho
              · exact h.elim
            · exact h.elim
          · cases ho
        · cases ho
      · cases ho
    · cases ho
  · cases ho

theorem vcAppend_ok {P : Program} {E : TypeId → Option ES} {ts : Array TypeId} {ty : TypeId} {s : St} {dst : Option Nat} {svA x : AV} {K : St → Prop} (h : vcAppend P E s dst ts svA x K)
    {C : Ctx} {a : Act} {w : World} {η : Nat → Value} {Z T : FP} (hi : Inst C s a w η Z T) {sv xv : Value} (hs : relS Z η w svA sv (fun _ => False)) (hx : relS Z η w x xv (fun _ => False)) :
    ∃ u w' s', (Builtin.append_ ts ty #[sv, xv]).run P w = .ok u w' ∧ K s' ∧ Rel C s' (a.put dst u) w' := by
  unfold vcAppend at h
  split at h
  · rename_i t sz bytes ho
    split at h
    · split at h
      · rename_i es hE
        simp only [relS, rel0] at hs
        refine appInto_ok ho ty h hi (A1 := fun _ => False) (B1 := T) (i := 0) (join_emp_left T) ?_ hi.rel hi.ids hx
        simp only [rel0]
        exact ⟨none, 0, 0, hs.1, rfl, Nat.le_refl _, .inl ⟨trivial, .inl ⟨rfl, rfl, emp_false⟩⟩⟩
      · exact h.elim
    · rename_i id
      split at h
      · rename_i i sz' α f xs regs1 ht
        split at h
        · rename_i hb
          have hb := Nat.eq_of_beq_eq_true hb
          subst hb
          obtain ⟨A1, B1, hj, hio, hro, hrr⟩ := takeL_ok s.regs _ T _ _ hi.rel ht
          obtain ⟨q1, q2, q3⟩ := takeL_ids s.regs _ _ hi.ids ht
          simp only [relS] at hs hro
          refine appInto_ok ho ty h hi hj (i := i) ?_ hrr q3 hx
          rw [hs.1]; exact hro.2
        · exact h.elim
      · exact h.elim
    · exact h.elim
  · exact h.elim

end Go.Eng
