/- One operation, whichever it is. -/
import Derived.Test.YtinkjpfkemkhaaaDoorEngS
import Derived.Laws.Sem
set_option linter.unusedVariables false
set_option linter.unusedSimpArgs false
namespace Go.Eng

theorem run_mapM {α β : Type} {P : Program} {w : World} {f : α → Sem β} {g : α → β} : ∀ (l : List α), (∀ x ∈ l, (f x).run P w = .ok (g x) w) → (l.mapM f).run P w = .ok (l.map g) w
  | [], _ => by simp [run_pure']
  | x :: l, h => by
    rw [List.mapM_cons, run_bind_ok (h x (by simp)), run_bind_ok (run_mapM l (fun y hy => h y (by simp [hy])))]; rfl
theorem run_mapMA {α β : Type} {P : Program} {w : World} {f : α → Sem β} {g : α → β} (l : Array α) (h : ∀ x ∈ l.toList, (f x).run P w = .ok (g x) w) : (l.mapM f).run P w = .ok (l.map g) w := by
  rw [Array.mapM_eq_mapM_toList, map_eq_pure_bind, run_bind_ok (run_mapM l.toList h)]
  simp only [run_pure']
  congr 1; apply Array.ext'; simp

/- a struct put together -/
def vcParts2 (P : Program) (regs : List AV) (t : TypeId) : List (Nat × Operand) → List AV → Option (List AV)
  | [], ls => some ls
  | (i, x) :: ps, ls => match fieldOff P t i, leavesOf (opAV regs x) with
    | some (off, sz), some l => match Nat.beq l.length sz, Nat.ble (off + sz) ls.length with
      | true, true => vcParts2 P regs t ps (ls.take off ++ l ++ ls.drop (off + sz))
      | _, _ => none
    | _, _ => none

def fieldsOk (P : Program) (fs : Array Field) : Bool := fs.toList.all fun f => (P.info? f.type).isSome
def vcBuild (P : Program) (regs : List AV) (t : TypeId) (parts : List (Nat × Operand)) (K : AV → Prop) : Prop :=
  match P.info? t, P.underlying t with
  | some i, some (.struct fs) => match i.zero, fieldsOk P fs with
    | some z, true => match vcParts2 P regs t parts (z.cells.toList.map constLeaf) with
      | some ls => K (.agg ls)
      | none => False
    | _, _ => False
  | _, _ => False

theorem fieldOff_ok {P : Program} {t : TypeId} {f off sz : Nat} {fs : Array Field} (hu : P.underlying t = some (.struct fs)) (h : fieldOff P t f = some (off, sz)) :
    ∃ fd i, fs[f]? = some fd ∧ fd.offset = off ∧ P.info? fd.type = some i ∧ i.size = sz := by
  unfold fieldOff at h
  rw [hu] at h
  simp only [] at h
  split at h
  · rename_i fd hfd
    split at h
    · rename_i i hi
      split at h
      · cases h
      · rename_i n hn
        simp only [Option.some.injEq, Prod.mk.injEq] at h
        exact ⟨fd, i, hfd, h.1, hi, by omega⟩
    · cases h
  · cases h

theorem vcParts2_ok {P : Program} {regs : List AV} {t : TypeId} {fs : Array Field} (hu : P.underlying t = some (.struct fs)) {g : Field → Nat × Nat} (hg : ∀ fd ∈ fs.toList, ∀ i, P.info? fd.type = some i → g fd = (fd.offset, i.size))
    {Z : FP} {η : Nat → Value} {w : World} {n : Nat} {a : Act} {S : FP} (hR : relSL Z η w regs a.tmps.toList S) (hI : idsBL n regs) :
    ∀ (ps : List (Nat × Operand)) (ls ls' : List AV) (cells : Array Value), vcParts2 P regs t ps ls = some ls' → relSL Z η w ls cells.toList (fun _ => False) → idsBL n ls →
    ∃ cells', Instr.fill ((fs.map g)[·]?) cells (ps.map fun p => (p.1, a.eval p.2)) = some cells' ∧ relSL Z η w ls' cells'.toList (fun _ => False) ∧ idsBL n ls'
  | [], ls, ls', cells, h, hr, hi => by
    simp only [vcParts2, Option.some.injEq] at h; subst h
    exact ⟨cells, rfl, hr, hi⟩
  | (i, x) :: ps, ls, ls', cells, h, hr, hi => by
    unfold vcParts2 at h
    split at h
    · rename_i off sz l hf hl
      split at h
      · rename_i hlen hle
        have hlen := Nat.eq_of_beq_eq_true hlen
        have hle := Nat.le_of_ble_eq_true hle
        obtain ⟨fd, inf, hfd, hoff, hinf, hsz⟩ := fieldOff_ok hu hf
        obtain ⟨q1, q2⟩ := leaves_rel (opAV_rel hR x) hl
        have hvl : (a.eval x).cells.toList.length = sz := by rw [relSL_len _ _ _ q1]; exact hlen
        have hcl : cells.toList.length = ls.length := relSL_len _ _ _ hr
        have hplace : (fs.map g)[i]? = some (off, sz) := by
          simp only [Array.getElem?_map, hfd, Option.map_some]
          have hmem : fd ∈ fs.toList := by
            have := List.mem_of_getElem? (l := fs.toList) (i := i) (a := fd) (by simpa [Array.getElem?_toList] using hfd)
            exact this
          rw [hg fd hmem inf hinf, hoff, hsz]
        have hfold := fold_set [] (a.eval x).cells.toList 0 cells off (by simp at hcl hvl ⊢; omega)
        have hfe : ((a.eval x).cells.zipIdx.foldl (fun cs (p : Value × Nat) => cs.setIfInBounds (off + p.2) p.1) cells) =
            (((a.eval x).cells.toList.zipIdx 0).foldl (fun (a : Array Value) (p : Value × Nat) => a.setIfInBounds (off + p.2) p.1) cells) := by
          rw [← Array.foldl_toList]; simp
        rw [← hfe] at hfold
        have hnew : relSL Z η w (ls.take off ++ l ++ ls.drop (off + sz)) (over cells.toList off (a.eval x).cells.toList) (fun _ => False) := by
          simp only [over]
          rw [hvl]
          exact relSL_append _ _ _ _ _ _ _ (relSL_append _ _ _ _ _ _ _ (relSL_take _ _ _ hr) q1 (join_emp_left _)) (relSL_drop _ _ _ hr) (join_emp_left _)
        have happ : ∀ (l1 l2 : List AV), idsBL n l1 → idsBL n l2 → idsBL n (l1 ++ l2) := by
          intro l1
          induction l1 with
          | nil => intro l2 _ h2; simpa using h2
          | cons x l1 ih => intro l2 h1 h2; exact ⟨h1.1, ih l2 h1.2 h2⟩
        obtain ⟨cells', h1, h2, h3⟩ := vcParts2_ok hu hg hR hI ps _ ls' ((a.eval x).cells.zipIdx.foldl (fun cs (p : Value × Nat) => cs.setIfInBounds (off + p.2) p.1) cells) h
          (by rw [hfold]; simpa using hnew) (happ _ _ (happ _ _ (idsBL_take _ _ hi) (leavesOf_ids (opAV_ids hI x) hl)) (idsBL_drop _ _ hi))
        refine ⟨cells', ?_, h2, h3⟩
        simp only [List.map_cons, Instr.fill, hplace]
        rw [if_neg (by simp at hvl hcl ⊢; omega)]
        exact h1
      · cases h
    · cases h

theorem vcBuild_ok {P : Program} {regs : List AV} {t : TypeId} {parts : Array (Nat × Operand)} {K : AV → Prop} (h : vcBuild P regs t parts.toList K) {Z : FP} {η : Nat → Value} {w : World} {n : Nat} {a : Act} {S : FP}
    (hR : relSL Z η w regs a.tmps.toList S) (hI : idsBL n regs) : POk P Z η w n (Instr.build t (parts.map fun p => (p.1, a.eval p.2))) K := by
  unfold vcBuild at h
  split at h
  · rename_i i fs hi hu
    split at h
    · rename_i z hz hfo
      split at h
      · rename_i ls hls
        have hinfo : ∀ fd ∈ fs.toList, ∃ i, P.info? fd.type = some i := by
          intro fd hfd
          have := List.all_eq_true.1 hfo fd hfd
          exact Option.isSome_iff_exists.1 this
        let g : Field → Nat × Nat := fun fd => (fd.offset, ((P.info? fd.type).map (·.size)).getD 0)
        obtain ⟨cells', h1, h2, h3⟩ := vcParts2_ok (g := g) hu (fun fd hfd i hi => by simp [g, hi]) hR hI parts.toList _ ls z.cells hls (constL_rel Z η w _) (idsBL_const n _)
        refine ⟨.agg cells', .agg ls, fun w _ => ?_, by simp only [relS]; exact ⟨_, by simp, h2⟩, by simp only [idsB]; exact h3, h⟩
        unfold Instr.build
        rw [run_bind_ok (run_zeroValue hi hz w), run_bind_ok (run_underlying hu w)]
        simp only []
        have hm : (fs.mapM fun f => do pure (f.offset, ← sizeOf f.type) : Sem (Array (Nat × Nat))).run P w = .ok (fs.map g) w := by
          refine run_mapMA fs fun fd hfd => ?_
          obtain ⟨inf, hinf⟩ := hinfo fd hfd
          rw [run_bind_ok (run_sizeOf hinf w)]
          simp [run_pure', g, hinf]
        rw [run_bind_ok hm]
        have : (parts.map fun p => (p.1, a.eval p.2)).toList = parts.toList.map fun p => (p.1, a.eval p.2) := by simp
        rw [this, h1]; rfl
      · exact h.elim
    · exact h.elim
  · exact h.elim

/- which function a call is handed, if any -/
def ckey : List AV → Nat
  | [] => 0
  | a :: as => match a with
    | .clo (.func h) _ => h + 1
    | _ => ckey as
/- all operations -/
def vcOp (P : Program) (Γ : FuncId → Nat → Option Sig) (E : TypeId → Option ES) (ov : Bool) (o : Oper) (s : St) (K : St → Prop) : Prop :=
  match o.op with
  | .alloc e => match P.info? e with
    | some i => match i.zero with
      | some z => vcBox s o.dst (constAV z) K
      | none => False
    | none => False
  | .box _ x => vcBox s o.dst (opAV s.regs x) K
  | .build t parts => vcBuild P s.regs t parts.toList fun r => K ⟨setR s.regs o.dst r, s.nx⟩
  | .buildSlice t len parts => vcBuildSlice P E s o.dst t len parts.toList K
  | .makeSlice t l c => vcMake P E s o.dst t (opAV s.regs l) (opAV s.regs c) K
  | .store t p v => match o.dst with
    | none => vcStore P s t (opAV s.regs p) (opAV s.regs v) K
    | some _ => False
  | .call ⟨.value f, args, ts⟩ => match opAV s.regs f with
    | .clo (.func g) caps => match Γ g (ckey (args.toList.map (opAV s.regs) ++ caps)) with
      | some S => vcCallF S s o.dst (args.toList.map (opAV s.regs) ++ caps) K
      | none => False
    | _ => False
  | .call ⟨.builtin .append, args, ts⟩ => match args.toList with
    | [x, y] => vcAppend P E s o.dst ts (opAV s.regs x) (opAV s.regs y) K
    | _ => False
  | .slice t x lo hi none => match opAV s.regs x with
    | .al id => vcSliceOwn P s o.dst t id (lo.map (opAV s.regs)) (hi.map (opAV s.regs)) K
    | _ => vcPure P ov s.regs (.slice t x lo hi none) fun r => K ⟨setR s.regs o.dst r, s.nx⟩
  | op => vcPure P ov s.regs op fun r => K ⟨setR s.regs o.dst r, s.nx⟩

/- what holds behind an operation -/
def Next' (C : Ctx) (K : St → Prop) (a : Act) (dst : Option Nat) (a' : Act) (w' : World) : Prop := ∃ s', K s' ∧ Rel C s' a' w' ∧ ∃ v, a' = a.put dst v

theorem vcOp_ok {P : Program} {Γ : FuncId → Nat → Option Sig} (hΓ : ∀ f k S, Γ f k = some S → Contract P f S) {E : TypeId → Option ES} {ov : Bool} {o : Oper} {s : St} {K : St → Prop} (h : vcOp P Γ E ov o s K)
    {C : Ctx} {a : Act} {w : World} (hr : Rel C s a w) (Q : Exit → Act → World → Prop) : o.wp P a w (Next' C K a o.dst) Q := by
  obtain ⟨η, Z, T, hi⟩ := hr
  have hop := opAV_rel hi.rel
  have hid := opAV_ids hi.ids
  have lift : ∀ {sm : Sem Value}, (∃ u w' s', sm.run P w = .ok u w' ∧ K s' ∧ Rel C s' (a.put o.dst u) w') → (execOp a.eval o = do pure (.value (← sm))) → o.wp P a w (Next' C K a o.dst) Q := by
    intro sm hs he
    obtain ⟨u, w', s', h1, h2, h3⟩ := hs
    unfold Oper.wp
    rw [he, run_v h1]
    exact ⟨s', h2, h3, u, rfl⟩
  have liftP : (∃ v r, (∀ w', Sees w w' → (execOp a.eval o).run P w' = .ok (.value v) w') ∧ relS Z η w r v (fun _ => False) ∧ idsB s.nx r ∧ K ⟨setR s.regs o.dst r, s.nx⟩) → o.wp P a w (Next' C K a o.dst) Q := by
    rintro ⟨v, r, h1, h2, h3, h4⟩
    unfold Oper.wp
    rw [h1 w (Sees.refl w)]
    exact ⟨_, h4, hi.put o.dst h2 h3, v, rfl⟩
  unfold vcOp at h
  split at h
  all_goals rename_i heq
  · rename_i e
    split at h
    · rename_i i hinf
      split at h
      · rename_i z hz
        have := vcBox_ok (P := P) h hi (constAV_rel Z η w z) (idsB_const _ z) e
        obtain ⟨u, w', s', h1, h2, h3⟩ := this
        refine lift (sm := Instr.alloc e true (.tuple #[])) ⟨u, w', s', ?_, h2, h3⟩ (by simp [execOp, heq])
        unfold Instr.alloc
        rw [run_bind_ok (run_zeroValue hinf hz w)]
        exact h1
      · exact h.elim
    · exact h.elim
  · rename_i e x
    exact lift (sm := Instr.box e (a.eval x)) (vcBox_ok h hi (hop x) (hid x) e) (by simp [execOp, heq])
  · rename_i t parts
    have := vcBuild_ok (a := a) h hi.rel hi.ids
    obtain ⟨v, r, h1, h2, h3, h4⟩ := this
    refine liftP ⟨v, r, fun w' hw' => ?_, h2, h3, h4⟩
    have he : execOp a.eval o = (do pure (.value (← Instr.build t (parts.map fun p => (p.1, a.eval p.2))))) := by simp [execOp, heq]
    rw [he]; exact run_v (h1 w' hw')
  · rename_i t len parts
    exact lift (vcBuildSlice_ok (a := a) h hi) (by simp [execOp, heq])
  · rename_i t l c
    exact lift (vcMake_ok h hi (hop l) (hop c)) (by simp [execOp, heq])
  · rename_i t p v
    split at h
    · rename_i hdst
      obtain ⟨w', s', h1, h2, h3⟩ := vcStore_ok h hi (hop p) (hop v) (hid v)
      unfold Oper.wp
      have he : execOp a.eval o = (do Instr.storeAt t (a.eval p) (a.eval v); pure .skip) := by simp [execOp, heq]
      rw [he, run_bind_ok h1]
      refine ⟨s', h2, ?_, undef, rfl⟩
      rw [hdst]; exact h3
    · exact h.elim
  · rename_i f args ts
    split at h
    · rename_i g caps hf
      split at h
      · rename_i S hS
        have hc := hΓ g _ S hS
        have hfv := hop f
        have hfi := hid f
        rw [hf] at hfv hfi
        simp only [relS] at hfv
        simp only [idsB] at hfi
        obtain ⟨cs, hfe, hcs⟩ := hfv
        have hargs := relSL_append _ _ _ _ _ _ _ (opL_rel (a := a) hi.rel args.toList) hcs (join_emp_left _)
        have happ : ∀ (l1 l2 : List AV), idsBL s.nx l1 → idsBL s.nx l2 → idsBL s.nx (l1 ++ l2) := by
          intro l1
          induction l1 with
          | nil => intro l2 _ h2; simpa using h2
          | cons x l1 ih => intro l2 h1 h2; exact ⟨h1.1, ih l2 h1.2 h2⟩
        have hcall := vcCallF_ok hc h hi hargs (happ _ _ (opL_ids hi.ids args.toList) hfi)
        obtain ⟨⟨⟨fn, hfn, hnm, hbody⟩, _⟩, _⟩ := hc
        unfold Oper.wp
        have he : (execOp a.eval o).run P w = .ok (.enter g (args.toList.map a.eval ++ cs).toArray) w := by
          simp only [execOp, heq, resolve, hfe, Deferred.ofValue]
          rw [run_bind_ok (run_pure' P _ w)]
          simp only [invoke, callFunc, program]
          rw [run_bind_ok (x := P) (w' := w) rfl]
          simp only [hfn, hnm, Bool.false_eq_true, if_false, hbody]
          simp only [run_pure']
          congr 2
          apply Array.ext'; simp
        rw [he, Oper.upon_enter]
        refine hcall.mono ?_
        rintro e w' ⟨v, s', rfl, h2, h3⟩
        exact ⟨s', h2, h3, v, rfl⟩
      · exact h.elim
    · exact h.elim
  · rename_i args ts
    split at h
    · rename_i x y hf
      have hf := arr_of_list hf
      exact lift (vcAppend_ok (ty := o.type) h hi (hop x) (hop y)) (by simp [execOp, heq, hf, resolve, invoke, builtin])
    · exact h.elim
  · rename_i t x lo hi2
    split at h
    · rename_i id hx
      have hxr := hop x
      rw [hx] at hxr
      have opt : ∀ y : Option Operand, (∀ a1, y.map (opAV s.regs) = some a1 → ∃ v, y.map a.eval = some v ∧ relS Z η w a1 v (fun _ => False)) ∧ (y.map (opAV s.regs) = none → y.map a.eval = none) := by
        intro y
        cases y with
        | none => exact ⟨fun a1 h => by simp at h, fun _ => rfl⟩
        | some y => exact ⟨fun a1 h => by simp at h; subst h; exact ⟨_, rfl, hop y⟩, fun h => by simp at h⟩
      exact lift (sm := Instr.sliceAt t (a.eval x) (lo.map a.eval) (hi2.map a.eval) none) (vcSliceOwn_ok h hi hxr (opt lo).1 (opt lo).2 (opt hi2).1 (opt hi2).2) (by simp [execOp, heq])
    · rw [← heq] at h
      exact liftP (vcPure_ok h hi.rel hi.ids)
  · exact liftP (vcPure_ok h hi.rel hi.ids)

end Go.Eng
