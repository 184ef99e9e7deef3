/- All operations that only look, under one condition. -/
import Derived.Test.YtinkjpfkemkhaaaDoorEngG0
set_option linter.unusedVariables false
set_option linter.unusedSimpArgs false
namespace Go.Eng

def bcase (b : Bool) (p q : Prop) : Prop := match b with
  | true => p
  | false => q

def vcField (P : Program) (t : TypeId) (x : AV) (f : Nat) (K : AV → Prop) : Prop :=
  match x with
  | .agg cs => match P.underlying t with
    | some (.struct fs) => match fs[f]? with
      | some fd => match P.underlying fd.type, P.info? fd.type with
        | some d, some i => match isAggD d with
          | true => K (.agg ((cs.drop fd.offset).take i.size))
          | false => match cs[fd.offset]? with
            | some a => K a
            | none => False
        | _, _ => False
      | none => False
    | _ => False
  | _ => False

theorem relSL_get {Z : FP} {η : Nat → Value} {w : World} {as : List AV} {cs : List Value} (h : relSL Z η w as cs (fun _ => False)) {i : Nat} {a : AV} (ha : as[i]? = some a) :
    ∃ v, cs[i]? = some v ∧ relS Z η w a v (fun _ => False) := by
  obtain ⟨v, A, B, hv, hr, hj, _⟩ := focus as cs _ i a h ha
  have hA := (emp_of_join hj emp_false).1
  rw [emp_eq hA] at hr
  exact ⟨v, hv, hr⟩

theorem vcField_ok {P : Program} {t : TypeId} {x : AV} {f : Nat} {K : AV → Prop} (h : vcField P t x f K) {Z : FP} {η : Nat → Value} {w : World} {n : Nat} {xv : Value}
    (hx : relS Z η w x xv (fun _ => False)) (hi : idsB n x) : POk P Z η w n (Instr.field t xv f) K := by
  unfold vcField at h
  split at h
  · rename_i cs
    simp only [relS] at hx
    obtain ⟨vs, e, hr⟩ := hx
    subst e
    simp only [idsB] at hi
    split at h
    · rename_i fs hu
      split at h
      · rename_i fd hfd
        split at h
        · rename_i d i hud hinf
          have hrun : ∀ v w, (part fd.type vs.toArray fd.offset).run P w = .ok v w → (Instr.field t (.agg vs.toArray) f).run P w = .ok v w := by
            intro v w hv
            unfold Instr.field
            rw [run_bind_ok (run_underlying hu w)]
            simp only [hfd, asAgg]
            rw [run_bind_ok (run_pure' P _ w)]
            exact hv
          split at h
          · rename_i hagg
            refine ⟨.agg ((vs.drop fd.offset).take i.size).toArray, _, fun w _ => hrun _ w ?_, ?_, ?_, h⟩
            · unfold part
              rw [run_bind_ok (run_isAgg hud w), hagg]
              simp only [if_true]
              rw [run_bind_ok (run_sizeOf hinf w)]
              simp only [run_pure']
              congr 2
              apply Array.ext'
              simp [List.drop_take]
            · simp only [relS]; exact ⟨_, rfl, relSL_take _ _ _ (relSL_drop _ _ _ hr)⟩
            · simp only [idsB]; exact idsBL_take _ _ (idsBL_drop _ _ hi)
          · rename_i hagg
            split at h
            · rename_i a ha
              obtain ⟨v, hv, hrv⟩ := relSL_get hr ha
              refine ⟨v, a, fun w _ => hrun _ w ?_, hrv, idsBL_get _ _ _ hi ha, h⟩
              unfold part
              rw [run_bind_ok (run_isAgg hud w), hagg]
              simp only [Bool.false_eq_true, if_false]
              have : vs.toArray[fd.offset]? = some v := by simpa using hv
              rw [this]; rfl
            · exact h.elim
        · exact h.elim
      · exact h.elim
    · exact h.elim
  · exact h.elim

def vcExtract (x : AV) (i : Nat) (K : AV → Prop) : Prop :=
  match x with
  | .tup vs => match vs[i]? with
    | some a => K a
    | none => False
  | _ => False
theorem vcExtract_ok {P : Program} {x : AV} {i : Nat} {K : AV → Prop} (h : vcExtract x i K) {Z : FP} {η : Nat → Value} {w : World} {n : Nat} {xv : Value}
    (hx : relS Z η w x xv (fun _ => False)) (hi : idsB n x) : POk P Z η w n (Instr.extract xv i) K := by
  unfold vcExtract at h
  split at h
  · rename_i vs
    simp only [relS] at hx
    obtain ⟨cs, e, hr⟩ := hx
    subst e
    simp only [idsB] at hi
    split at h
    · rename_i a ha
      obtain ⟨v, hv, hrv⟩ := relSL_get hr ha
      refine ⟨v, a, fun _ _ => ?_, hrv, idsBL_get _ _ _ hi ha, h⟩
      unfold Instr.extract
      have : cs.toArray[i]? = some v := by simpa using hv
      simp only [this]; rfl
    · exact h.elim
  · exact h.elim

def vcBytes (P : Program) (s d : TypeId) {α : Type} (sz : Nat) (f : α → List AV) (xs : List α) (K : AV → Prop) : Prop :=
  match P.underlying s, P.underlying d with
  | some (.slice e), some .string => match P.underlying e with
    | some (.int .u8) => ∃ l : List UInt8, AV.sl false 0 sz α f xs = AV.sl false 0 1 UInt8 bytA l ∧ K (.str l)
    | _ => False
  | _, _ => False
def vcConvert (P : Program) (ov : Bool) (regs : List AV) (s d : TypeId) (x : AV) (K : AV → Prop) : Prop :=
  match x with
  | .int _ n => match P.underlying s, P.underlying d with
    | some (.int _), some (.int k) => vcInt ov k n K
    | _, _ => False
  | .str l => match P.underlying s, P.underlying d with
    | some .string, some .string => K (.str l)
    | _, _ => False
  | .sl false _ sz α f xs => vcBytes P s d sz f xs K
  | .al id => match findL id regs with
    | some (.sl true _ sz α f xs) => vcBytes P s d sz f xs K
    | _ => False
  | _ => False
theorem vcBytes_ok {P : Program} {s d : TypeId} {α : Type} {sz : Nat} {f : α → List AV} {xs : List α} {K : AV → Prop} (h : vcBytes P s d sz f xs K) {Z : FP} {η : Nat → Value} {w : World} {n : Nat} {xv : Value}
    {own : Bool} {id : Nat} {S : FP} (hx : rel0 Z w (.sl own id sz α f xs) xv S) : POk P Z η w n (convert s d xv) K := by
  unfold vcBytes at h
  split at h
  · rename_i e hs hd
    split at h
    · rename_i he
      obtain ⟨l, hl, hk⟩ := h
      have hx' : rel0 Z w (.sl own id 1 UInt8 bytA l) xv S := by
        injection hl with _ _ h1 h2 h3 h4
        subst h1; subst h2
        have h3 := eq_of_heq h3; have h4 := eq_of_heq h4
        subst h3; subst h4
        exact hx
      obtain ⟨a, m, c, rfl, _⟩ := run_bytes (P := P) (Sees.refl w) hx'
      refine ⟨_, .str l, fun w2 hw2 => ?_, ⟨rfl, emp_false⟩, trivial, hk⟩
      rw [run_convert_bytes_string w2 s d e a m c hs he hd]
      obtain ⟨_, _, _, _, hr⟩ := run_bytes (P := P) hw2 hx'
      exact hr
    · exact h.elim
  · exact h.elim
theorem vcConvert_ok {P : Program} {ov : Bool} {regs : List AV} {s d : TypeId} {x : AV} {K : AV → Prop} (h : vcConvert P ov regs s d x K) {Z : FP} {η : Nat → Value} {w : World} {n : Nat} {xv : Value}
    {vs : List Value} {S : FP} (hR : relSL Z η w regs vs S) (hx : relS Z η w x xv (fun _ => False)) : POk P Z η w n (convert s d xv) K := by
  unfold vcConvert at h
  split at h
  · rename_i k0 m
    simp only [relS, rel0] at hx
    rw [hx.1]
    split at h
    · rename_i k1 k hs hd
      refine ⟨_, .int k (k.wrap m), fun w _ => ?_, ⟨rfl, emp_false⟩, trivial, vcInt_ok h⟩
      unfold convert
      rw [run_bind_ok (run_underlying hs w), run_bind_ok (run_underlying hd w)]; rfl
    · exact h.elim
  · rename_i l
    simp only [relS, rel0] at hx
    rw [hx.1]
    split at h
    · rename_i hs hd
      refine ⟨_, .str l, fun w _ => ?_, ⟨rfl, emp_false⟩, trivial, h⟩
      unfold convert
      rw [run_bind_ok (run_underlying hs w), run_bind_ok (run_underlying hd w)]; rfl
    · exact h.elim
  · rename_i i sz α f xs
    simp only [relS] at hx
    exact vcBytes_ok h hx.2
  · rename_i id
    split at h
    · rename_i j sz α f xs ho
      obtain ⟨A, hA, hio, hr⟩ := findL_ok regs vs S _ hR ho
      simp only [relS] at hx hr
      rw [hx.1]
      exact vcBytes_ok h hr.2
    · exact h.elim
  · exact h.elim

def vcLen (P : Program) (regs : List AV) (t : Option TypeId) (x : AV) (K : AV → Prop) : Prop :=
  match t with
  | some t => match P.underlying t with
    | some .string => match x with
      | .str l => K (.int .i64 l.length)
      | _ => False
    | some (.slice _) => match x with
      | .sl _ _ _ _ _ xs => K (.int .i64 xs.length)
      | .nil => K (.int .i64 0)
      | .al id => match findL id regs with
        | some (.sl true _ _ _ _ xs) => K (.int .i64 xs.length)
        | _ => False
      | _ => False
    | _ => False
  | none => False
def lenV : TypeDesc → Value → Option Value
  | .string, .string s => some (goInt s.size)
  | .slice _, .slice _ m _ => some (goInt m)
  | _, _ => none
theorem run_len {P : Program} {ts : Array TypeId} {ty t : TypeId} {d : TypeDesc} {x v : Value} {w : World} (ht : ts[0]? = some t) (hu : P.underlying t = some d)
    (hv : lenV d x = some v) : (Builtin.len_ ts ty #[x]).run P w = .ok v w := by
  unfold Builtin.len_
  simp only [ht]
  have : (#[x] : Array Value)[0]? = some x := rfl
  simp only [this]
  rw [run_bind_ok (run_underlying hu w)]
  unfold lenV at hv
  split at hv <;> simp_all [run_pure']
theorem vcLen_ok {P : Program} {regs : List AV} {ts : Array TypeId} {ty : TypeId} {x : AV} {K : AV → Prop} (h : vcLen P regs ts[0]? x K) {Z : FP} {η : Nat → Value} {w : World} {n : Nat}
    {vs : List Value} {S : FP} {xv : Value} (hR : relSL Z η w regs vs S) (hx : relS Z η w x xv (fun _ => False)) : POk P Z η w n (Builtin.len_ ts ty #[xv]) K := by
  unfold vcLen at h
  split at h
  · rename_i t ht
    split at h
    · rename_i hu
      split at h
      · rename_i l
        simp only [relS, rel0] at hx
        refine ⟨.int .i64 l.length, .int .i64 l.length, fun _ _ => run_len ht hu ?_, ⟨rfl, emp_false⟩, trivial, h⟩
        rw [hx.1]; simp [lenV, goInt, ByteArray.size]
      · exact h.elim
    · rename_i e hu
      split at h
      · rename_i own id sz α f xs
        simp only [relS, rel0] at hx
        obtain ⟨_, a, n', c, ev, hn, _⟩ := hx
        refine ⟨.int .i64 xs.length, .int .i64 xs.length, fun _ _ => run_len ht hu ?_, ⟨rfl, emp_false⟩, trivial, h⟩
        rw [ev, hn]; simp [lenV, goInt]
      · simp only [relS, rel0] at hx
        refine ⟨.int .i64 0, .int .i64 0, fun _ _ => run_len ht hu ?_, ⟨rfl, emp_false⟩, trivial, h⟩
        rw [hx.1]; simp [lenV, goInt]
      · rename_i id
        split at h
        · rename_i i' sz α f xs ho
          obtain ⟨A, hA, hio, hr⟩ := findL_ok regs vs S _ hR ho
          simp only [relS] at hx
          simp only [relS, rel0] at hr
          obtain ⟨_, a, n', c, ev, hn, _⟩ := hr
          refine ⟨.int .i64 xs.length, .int .i64 xs.length, fun _ _ => run_len ht hu ?_, ⟨rfl, emp_false⟩, trivial, h⟩
          rw [hx.1, ev, hn]; simp [lenV, goInt]
        · exact h.elim
      · exact h.elim
    · exact h.elim
  · exact h.elim

def vcMin (x y : AV) (K : AV → Prop) : Prop :=
  match x, y with
  | .int k a, .int _ b => K (.int k (min a b))
  | _, _ => False
def vcMax (x y : AV) (K : AV → Prop) : Prop :=
  match x, y with
  | .int k a, .int _ b => K (.int k (max a b))
  | _, _ => False
theorem vcMin_ok {P : Program} {ts : Array TypeId} {ty : TypeId} {x y : AV} {K : AV → Prop} (h : vcMin x y K) {Z : FP} {η : Nat → Value} {w : World} {n : Nat} {xv yv : Value}
    (hx : relS Z η w x xv (fun _ => False)) (hy : relS Z η w y yv (fun _ => False)) : POk P Z η w n (Builtin.min_ ts ty #[xv, yv]) K := by
  unfold vcMin at h
  split at h
  · rename_i k a k' b
    simp only [relS, rel0] at hx hy
    rw [hx.1, hy.1]
    refine ⟨.int k (min a b), .int k (min a b), fun _ _ => ?_, ⟨rfl, emp_false⟩, trivial, h⟩
    have : (if b < a then b else a) = min a b := by rw [Int.min_def]; split <;> split <;> omega
    simp [Builtin.min_, Builtin.min2, this]
  · exact h.elim
theorem vcMax_ok {P : Program} {ts : Array TypeId} {ty : TypeId} {x y : AV} {K : AV → Prop} (h : vcMax x y K) {Z : FP} {η : Nat → Value} {w : World} {n : Nat} {xv yv : Value}
    (hx : relS Z η w x xv (fun _ => False)) (hy : relS Z η w y yv (fun _ => False)) : POk P Z η w n (Builtin.max_ ts ty #[xv, yv]) K := by
  unfold vcMax at h
  split at h
  · rename_i k a k' b
    simp only [relS, rel0] at hx hy
    rw [hx.1, hy.1]
    refine ⟨.int k (max a b), .int k (max a b), fun _ _ => ?_, ⟨rfl, emp_false⟩, trivial, h⟩
    have : (if b > a then b else a) = max a b := by rw [Int.max_def]; split <;> split <;> omega
    simp [Builtin.max_, Builtin.max2, this]
  · exact h.elim

def vcNilCheck (regs : List AV) (x : AV) (K : AV → Prop) : Prop :=
  match x with
  | .al id => match findL id regs with
    | some (.box _ _) => K (.al id)
    | _ => False
  | .po id k sz o => K (.po id k sz o)
  | .pf c => K (.pf c)
  | .clo (.func f) cs => K (.clo (.func f) cs)
  | _ => False

def vcPure (P : Program) (ov : Bool) (regs : List AV) (o : Op) (K : AV → Prop) : Prop :=
  match o with
  | .move x => K (opAV regs x)
  | .assign x => K (opAV regs x)
  | .pick c x y => match opAV regs c with
    | .bool b => bcase b (K (opAV regs x)) (K (opAV regs y))
    | _ => False
  | .binOp op t x y _ => vcBin P ov op t (opAV regs x) (opAV regs y) K
  | .unOp op _ x => vcUn op (opAV regs x) ov K
  | .load t p => vcLoadAt P regs t (opAV regs p) K
  | .fieldAddr s x f => vcFieldAddr P regs s f (opAV regs x) K
  | .indexAddr t x i => vcIndexAddr P regs t (opAV regs x) (opAV regs i) K
  | .index t x i => vcIndex P t (opAV regs x) (opAV regs i) K
  | .slice t x lo hi none => vcSlice P t (opAV regs x) (lo.map (opAV regs)) (hi.map (opAV regs)) K
  | .field t x f => vcField P t (opAV regs x) f K
  | .extract x i => vcExtract (opAV regs x) i K
  | .nilCheck x => vcNilCheck regs (opAV regs x) K
  | .convert s d x => vcConvert P ov regs s d (opAV regs x) K
  | .makeFunc fn first captured => match first.toList with
    | [] => K (.clo fn (captured.toList.map (opAV regs)))
    | _ => False
  | .call ⟨.builtin .len, args, ts⟩ => match args.toList with
    | [x] => vcLen P regs ts[0]? (opAV regs x) K
    | _ => False
  | .call ⟨.builtin .min, args, ts⟩ => match args.toList with
    | [x, y] => vcMin (opAV regs x) (opAV regs y) K
    | _ => False
  | .call ⟨.builtin .max, args, ts⟩ => match args.toList with
    | [x, y] => vcMax (opAV regs x) (opAV regs y) K
    | _ => False
  | _ => False

theorem arr_of_list {α : Type} {a : Array α} {l : List α} (h : a.toList = l) : a = l.toArray := by rw [← h]

theorem opL_rel {Z : FP} {η : Nat → Value} {w : World} {regs : List AV} {a : Act} {S : FP} (hR : relSL Z η w regs a.tmps.toList S) : ∀ l : List Operand,
    relSL Z η w (l.map (opAV regs)) (l.map a.eval) (fun _ => False)
  | [] => by simp [relSL, emp]
  | x :: l => by
    simp only [List.map, relSL]
    exact ⟨_, _, _, _, rfl, join_emp_left _, opAV_rel hR x, opL_rel hR l⟩
theorem opL_ids {n : Nat} {regs : List AV} (h : idsBL n regs) : ∀ l : List Operand, idsBL n (l.map (opAV regs))
  | [] => trivial
  | x :: l => ⟨opAV_ids h x, opL_ids h l⟩

theorem vcPure_ok {P : Program} {ov : Bool} {regs : List AV} {o : Oper} {K : AV → Prop} (h : vcPure P ov regs o.op K) {Z : FP} {η : Nat → Value} {w : World} {n : Nat} {a : Act} {S : FP}
    (hR : relSL Z η w regs a.tmps.toList S) (hI : idsBL n regs) :
    ∃ v r, (∀ w', Sees w w' → (execOp a.eval o).run P w' = .ok (.value v) w') ∧ relS Z η w r v (fun _ => False) ∧ idsB n r ∧ K r := by
  have lift : ∀ {s : Sem Value}, POk P Z η w n s K → (execOp a.eval o = do pure (.value (← s))) →
      ∃ v r, (∀ w', Sees w w' → (execOp a.eval o).run P w' = .ok (.value v) w') ∧ relS Z η w r v (fun _ => False) ∧ idsB n r ∧ K r := by
    intro s hs he
    obtain ⟨v, r, h1, h2, h3, h4⟩ := hs
    exact ⟨v, r, fun w' hw' => by rw [he]; exact run_v (h1 w' hw'), h2, h3, h4⟩
  have hop := opAV_rel hR
  have hid := opAV_ids hI
  unfold vcPure at h
  split at h
  all_goals rename_i heq
  · exact ⟨_, _, fun _ _ => by simp [execOp, heq], hop _, hid _, h⟩
  · exact ⟨_, _, fun _ _ => by simp [execOp, heq], hop _, hid _, h⟩
  · rename_i c x y
    split at h
    · rename_i b hb
      have hc := hop c
      rw [hb] at hc
      simp only [relS, rel0] at hc
      unfold bcase at h
      cases b
      · exact ⟨a.eval y, _, fun _ _ => by simp [execOp, heq, hc.1, asBool, run_bind], hop _, hid _, h⟩
      · exact ⟨a.eval x, _, fun _ _ => by simp [execOp, heq, hc.1, asBool, run_bind], hop _, hid _, h⟩
    · exact h.elim
  · exact lift (vcBin_ok h (hop _) (hop _)) (by simp [execOp, heq]; rfl)
  · exact lift (vcUn_ok h (hop _)) (by simp [execOp, heq])
  · exact lift (vcLoadAt_ok h hR hI (hop _)) (by simp [execOp, heq])
  · exact lift (vcFieldAddr_ok h hR (hop _) (hid _)) (by simp [execOp, heq])
  · exact lift (vcIndexAddr_ok h hR hI (hop _) (hid _) (hop _)) (by simp [execOp, heq])
  · exact lift (vcIndex_ok h (hop _) (hop _)) (by simp [execOp, heq])
  · rename_i t x lo hi
    refine lift (vcSlice_ok (lov := lo.map a.eval) (hiv := hi.map a.eval) h (hop _) ?_ ?_ ?_ ?_) (by simp [execOp, heq])
    · intro b hb; cases lo <;> simp at hb; subst hb; exact ⟨_, rfl, hop _⟩
    · intro hb; cases lo <;> simp at hb; rfl
    · intro b hb; cases hi <;> simp at hb; subst hb; exact ⟨_, rfl, hop _⟩
    · intro hb; cases hi <;> simp at hb; rfl
  · exact lift (vcField_ok h (hop _) (hid _)) (by simp [execOp, heq])
  · exact lift (vcExtract_ok h (hop _) (hid _)) (by simp [execOp, heq])
  · rename_i x
    have hx := hop x
    have hxi := hid x
    unfold vcNilCheck at h
    split at h
    · rename_i id hq
      split at h
      · rename_i i c ho
        obtain ⟨A, hA, hi', hr⟩ := findL_ok regs _ S _ hR ho
        rw [hq] at hx hxi
        have hx' := hx
        simp only [relS] at hx' hr
        obtain ⟨_, b, arr, ty, S1, e0, _⟩ := hr
        exact ⟨a.eval x, _, fun _ _ => by simp [execOp, heq, hx'.1, e0], hx, hxi, h⟩
      · exact h.elim
    · rename_i id k sz of' hq
      rw [hq] at hx hxi
      have hx' := hx
      simp only [relS] at hx'
      exact ⟨a.eval x, _, fun _ _ => by simp [execOp, heq, hx'.1], hx, hxi, h⟩
    · rename_i c hq
      rw [hq] at hx hxi
      have hx' := hx
      simp only [relS, rel0] at hx'
      obtain ⟨_, b, off, arr, ty, fr, cs, rest, S1, e, _⟩ := hx'
      exact ⟨a.eval x, _, fun _ _ => by simp [execOp, heq, e], hx, hxi, h⟩
    · rename_i f cs hq
      rw [hq] at hx hxi
      have hx' := hx
      simp only [relS] at hx'
      obtain ⟨cs, e, _⟩ := hx'
      exact ⟨a.eval x, _, fun _ _ => by simp [execOp, heq, e], hx, hxi, h⟩
    · exact h.elim
  · exact lift (vcConvert_ok h hR (hop _)) (by simp [execOp, heq])
  · rename_i fn first captured
    split at h
    · rename_i hf
      have hf := arr_of_list hf
      refine ⟨.func fn #[] (captured.map a.eval), .clo fn (captured.toList.map (opAV regs)), fun _ _ => ?_, ?_, ?_, h⟩
      · simp [execOp, heq, Instr.makeFunc, hf, run_bind]
      · simp only [relS]
        exact ⟨captured.toList.map a.eval, by congr 1; apply Array.ext'; simp, opL_rel hR _⟩
      · simp only [idsB]; exact opL_ids hI _
    · exact h.elim
  · rename_i args ts
    split at h
    · rename_i x hf
      have hf := arr_of_list hf
      refine lift (vcLen_ok (ty := o.type) h hR (hop _)) (by simp [execOp, heq, hf, resolve, invoke, builtin])
    · exact h.elim
  · rename_i args ts
    split at h
    · rename_i x y hf
      have hf := arr_of_list hf
      refine lift (vcMin_ok (ts := ts) (ty := o.type) h (hop _) (hop _)) (by simp [execOp, heq, hf, resolve, invoke, builtin])
    · exact h.elim
  · rename_i args ts
    split at h
    · rename_i x y hf
      have hf := arr_of_list hf
      refine lift (vcMax_ok (ts := ts) (ty := o.type) h (hop _) (hop _)) (by simp [execOp, heq, hf, resolve, invoke, builtin])
    · exact h.elim
  · exact h.elim

end Go.Eng
