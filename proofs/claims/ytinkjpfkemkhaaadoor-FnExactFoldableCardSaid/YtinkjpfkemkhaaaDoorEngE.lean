/- The conditions of the operations that only look. -/
import Derived.Test.YtinkjpfkemkhaaaDoorEngD
set_option linter.unusedVariables false
set_option linter.unusedSimpArgs false
namespace Go.Eng

def POk (P : Program) (Z : FP) (η : Nat → Value) (w : World) (n : Nat) (s : Sem Value) (K : AV → Prop) : Prop :=
  ∃ v r, (∀ w', Sees w w' → s.run P w' = .ok v w') ∧ relS Z η w r v (fun _ => False) ∧ idsB n r ∧ K r

theorem POk.pre {P : Program} {Z : FP} {η : Nat → Value} {w : World} {n : Nat} {g : Sem Unit} {s : Sem Value} {K : AV → Prop} (hg : ∀ w', g.run P w' = .ok () w') (h : POk P Z η w n s K) :
    POk P Z η w n (do g; s) K := by
  obtain ⟨v, r, h1, h2⟩ := h
  exact ⟨v, r, fun w' hw' => by rw [run_bind_ok (hg w')]; exact h1 w' hw', h2⟩

theorem run_v {P : Program} {s : Sem Value} {w w' : World} {v : Value} (h : s.run P w = .ok v w') : (do pure (Next.value (← s)) : Sem Next).run P w = .ok (.value v) w' := by
  rw [run_bind_ok h]; rfl

/- integers -/
def inR (k : IntKind) (n : Int) : Prop := k.min ≤ n ∧ n ≤ k.max
theorem wrap_in {k : IntKind} {n : Int} (h : inR k n) : k.wrap n = n := by
  unfold inR at h
  obtain ⟨h1, h2⟩ := h
  cases k <;> simp [IntKind.wrap, IntKind.min, IntKind.max, IntKind.bits, IntKind.signed] at * <;> omega

def vcInt (ov : Bool) (k : IntKind) (n : Int) (K : AV → Prop) : Prop :=
  match ov with
  | true => K (.int k (k.wrap n))
  | false => inR k n ∧ K (.int k n)
theorem vcInt_ok {ov : Bool} {k : IntKind} {n : Int} {K : AV → Prop} (h : vcInt ov k n K) : K (.int k (k.wrap n)) := by
  cases ov
  · rw [wrap_in h.1]; exact h.2
  · exact h

def ikEq : IntKind → IntKind → Bool
  | .i8, .i8 => true
  | .i16, .i16 => true
  | .i32, .i32 => true
  | .i64, .i64 => true
  | .u8, .u8 => true
  | .u16, .u16 => true
  | .u32, .u32 => true
  | .u64, .u64 => true
  | _, _ => false
theorem ikEq_eq {a b : IntKind} (h : ikEq a b = true) : a = b := by cases a <;> cases b <;> first | rfl | cases h

def bitI (op : BinOp) (k : IntKind) (x y : Int) : Int := match op with
  | .and => k.wrap (BitVec.ofInt k.bits x &&& BitVec.ofInt k.bits y).toNat
  | .or => k.wrap (BitVec.ofInt k.bits x ||| BitVec.ofInt k.bits y).toNat
  | .xor => k.wrap (BitVec.ofInt k.bits x ^^^ BitVec.ofInt k.bits y).toNat
  | _ => 0
def shI (left : Bool) (k : IntKind) (x y : Int) : Int := match left with
  | true => k.wrap (x * 2 ^ (min y.toNat k.bits))
  | false => x.fdiv (2 ^ (min y.toNat k.bits))
def shOp : BinOp → Option Bool
  | .shl => some true
  | .shr => some false
  | _ => none
def vcIntOp (ov : Bool) (op : BinOp) (k : IntKind) (x y : Int) (K : AV → Prop) : Prop :=
  match op with
  | .add => vcInt ov k (x + y) K
  | .sub => vcInt ov k (x - y) K
  | .mul => vcInt ov k (x * y) K
  | .quo => y ≠ 0 ∧ vcInt ov k (x.tdiv y) K
  | .rem => y ≠ 0 ∧ K (.int k (x.tmod y))
  | .eql => K (.bool (x == y))
  | .neq => K (.bool (x != y))
  | .lss => K (.bool (decide (x < y)))
  | .leq => K (.bool (decide (x ≤ y)))
  | .gtr => K (.bool (decide (x > y)))
  | .geq => K (.bool (decide (x ≥ y)))
  | .and => K (.int k (bitI .and k x y))
  | .or => K (.int k (bitI .or k x y))
  | .xor => K (.int k (bitI .xor k x y))
  | _ => False

def vcBin (P : Program) (ov : Bool) (op : BinOp) (t : TypeId) (a b : AV) (K : AV → Prop) : Prop :=
  match a, b with
  | .int k x, .int k' y => match shOp op with
    | some left => 0 ≤ y ∧ K (.int k (shI left k x y))
    | none => match ikEq k k' with
      | true => vcIntOp ov op k x y K
      | false => False
  | .str x, .str y => match op with
    | .add => ((x.length + y.length : Nat) : Int) ≤ IntKind.i64.max ∧ K (.str (x ++ y))
    | .eql => K (.bool (x == y))
    | .neq => K (.bool !(x == y))
    | .lss => K (.bool (Op.bytesLess x y))
    | .leq => K (.bool (Op.bytesLess x y || x == y))
    | .gtr => K (.bool !(Op.bytesLess x y || x == y))
    | .geq => K (.bool !(Op.bytesLess x y))
    | _ => False
  | .bool x, .bool y => match P.underlying t with
    | some .bool => match op with
      | .eql => K (.bool (x == y))
      | .neq => K (.bool !(x == y))
      | _ => False
    | _ => False
  | _, _ => False

theorem run_eqGuard_int {P : Program} {op : BinOp} {t : TypeId} {x y : Operand} {k k' : IntKind} {a b : Int} {w : World} : (eqGuard op t x y (.int k a) (.int k' b)).run P w = .ok () w := by
  unfold eqGuard; cases op <;> rfl
theorem run_eqGuard_str {P : Program} {op : BinOp} {t : TypeId} {x y : Operand} {a b : ByteArray} {w : World} : (eqGuard op t x y (.string a) (.string b)).run P w = .ok () w := by
  unfold eqGuard; cases op <;> rfl
theorem run_eqGuard_bool {P : Program} {op : BinOp} {t : TypeId} {x y : Operand} {a b : Bool} {w : World} : (eqGuard op t x y (.bool a) (.bool b)).run P w = .ok () w := by
  unfold eqGuard; cases op <;> rfl

theorem vcBin_ok {P : Program} {ov : Bool} {op : BinOp} {t : TypeId} {a b : AV} {K : AV → Prop} (h : vcBin P ov op t a b K) {Z : FP} {η : Nat → Value} {w : World} {n : Nat}
    {xo yo : Operand} {x y : Value} (hx : relS Z η w a x (fun _ => False)) (hy : relS Z η w b y (fun _ => False)) :
    POk P Z η w n (do eqGuard op t xo yo x y; binOp op t x y) K := by
  unfold vcBin at h
  split at h
  · rename_i k p k' q
    simp only [relS, rel0] at hx hy
    rw [hx.1, hy.1]
    refine POk.pre (fun w' => run_eqGuard_int) ?_
    split at h
    · rename_i left hl
      have hn : ¬ q < 0 := by omega
      cases op <;> simp only [shOp, reduceCtorEq] at hl
      case shl =>
        simp only [Option.some.injEq] at hl; subst hl
        exact ⟨_, .int k (shI true k p q), fun _ _ => by simp only [binOp, Op.shift, if_neg hn, shI]; rfl, ⟨rfl, emp_false⟩, trivial, h.2⟩
      case shr =>
        simp only [Option.some.injEq] at hl; subst hl
        exact ⟨_, .int k (shI false k p q), fun _ _ => by simp only [binOp, Op.shift, if_neg hn, shI]; rfl, ⟨rfl, emp_false⟩, trivial, h.2⟩
    split at h
    · rename_i hk
      have hk := ikEq_eq hk
      subst hk
      cases op <;> simp only [vcIntOp] at h <;> try exact h.elim
      case and => exact ⟨_, .int k (bitI .and k p q), fun _ _ => by simp only [binOp, Op.intBits, ne_eq, not_true_eq_false, if_false, bitI]; rfl, ⟨rfl, emp_false⟩, trivial, h⟩
      case or => exact ⟨_, .int k (bitI .or k p q), fun _ _ => by simp only [binOp, Op.intBits, ne_eq, not_true_eq_false, if_false, bitI]; rfl, ⟨rfl, emp_false⟩, trivial, h⟩
      case xor => exact ⟨_, .int k (bitI .xor k p q), fun _ _ => by simp only [binOp, Op.intBits, ne_eq, not_true_eq_false, if_false, bitI]; rfl, ⟨rfl, emp_false⟩, trivial, h⟩
      case add => exact ⟨.int k (k.wrap (p + q)), .int k (k.wrap (p + q)), fun _ _ => by simp [binOp, Op.intArith], ⟨rfl, emp_false⟩, trivial, vcInt_ok h⟩
      case sub => exact ⟨.int k (k.wrap (p - q)), .int k (k.wrap (p - q)), fun _ _ => by simp [binOp, Op.intArith], ⟨rfl, emp_false⟩, trivial, vcInt_ok h⟩
      case mul => exact ⟨.int k (k.wrap (p * q)), .int k (k.wrap (p * q)), fun _ _ => by simp [binOp, Op.intArith], ⟨rfl, emp_false⟩, trivial, vcInt_ok h⟩
      case quo => exact ⟨.int k (k.wrap (p.tdiv q)), .int k (k.wrap (p.tdiv q)), fun _ _ => by simp [binOp, Op.intDiv, h.1], ⟨rfl, emp_false⟩, trivial, vcInt_ok h.2⟩
      case rem => exact ⟨.int k (p.tmod q), .int k (p.tmod q), fun _ _ => by simp [binOp, Op.intDiv, h.1], ⟨rfl, emp_false⟩, trivial, h.2⟩
      all_goals exact ⟨.bool _, .bool _, (fun _ _ => by simp [binOp, Op.intCmp]), ⟨rfl, emp_false⟩, trivial, h⟩
    · exact h.elim
  · rename_i p q
    simp only [relS, rel0] at hx hy
    rw [hx.1, hy.1]
    refine POk.pre (fun w' => run_eqGuard_str) ?_
    cases op <;> simp only at h <;> try exact h.elim
    case add =>
      refine ⟨.string ⟨(p ++ q).toArray⟩, .str (p ++ q), fun _ _ => ?_, ⟨rfl, emp_false⟩, trivial, h.2⟩
      have hh := h.1
      have e : (ByteArray.mk p.toArray ++ ByteArray.mk q.toArray) = ByteArray.mk (p ++ q).toArray := by
        apply ByteArray.ext; simp
      simp only [binOp, Op.stringOp]
      rw [if_neg (by simp only [ByteArray.size, List.size_toArray]; omega), e]; rfl
    all_goals exact ⟨_, .bool _, (fun _ _ => by simp only [binOp, Op.stringOp, ByteArray.toList_mk]; rfl), ⟨rfl, emp_false⟩, trivial, h⟩
  · rename_i p q
    split at h
    · rename_i hu
      simp only [relS, rel0] at hx hy
      rw [hx.1, hy.1]
      refine POk.pre (fun w' => run_eqGuard_bool) ?_
      have he : ∀ w, (Op.equal t (.bool p) (.bool q)).run P w = .ok (p == q) w := by
        intro w
        have hd : ∀ d, (Op.equalIn (d + 1) t (.bool p) (.bool q)).run P w = .ok (p == q) w := by
          intro d; unfold Op.equalIn
          rw [run_bind_ok (run_underlying hu w)]; rfl
        exact hd 9999
      cases op <;> simp only at h <;> try exact h.elim
      case eql => exact ⟨.bool (p == q), .bool (p == q), fun _ _ => by simp only [binOp]; rw [run_bind_ok (he _)]; rfl, ⟨rfl, emp_false⟩, trivial, h⟩
      case neq => exact ⟨.bool !(p == q), .bool !(p == q), fun _ _ => by simp only [binOp]; rw [run_bind_ok (he _)]; rfl, ⟨rfl, emp_false⟩, trivial, h⟩
    · exact h.elim
  · exact h.elim

def vcUn (op : UnOp) (a : AV) (ov : Bool) (K : AV → Prop) : Prop :=
  match op, a with
  | .not, .bool b => K (.bool !b)
  | .neg, .int k n => vcInt ov k (0 - n) K
  | _, _ => False
theorem vcUn_ok {P : Program} {op : UnOp} {a : AV} {ov : Bool} {K : AV → Prop} (h : vcUn op a ov K) {Z : FP} {η : Nat → Value} {w : World} {n : Nat} {x : Value}
    (hx : relS Z η w a x (fun _ => False)) : POk P Z η w n (Op.unary op x) K := by
  unfold vcUn at h
  split at h
  · simp only [relS, rel0] at hx; rw [hx.1]; exact ⟨_, .bool _, fun _ _ => rfl, ⟨rfl, emp_false⟩, trivial, h⟩
  · rename_i k m
    simp only [relS, rel0] at hx; rw [hx.1]; exact ⟨_, .int k (k.wrap (0 - m)), fun _ _ => rfl, ⟨rfl, emp_false⟩, trivial, vcInt_ok h⟩
  · exact h.elim

/- a load through a pointer -/
def vcLoadAt (P : Program) (regs : List AV) (t : TypeId) (p : AV) (K : AV → Prop) : Prop :=
  match p with
  | .pf c => vcLoad P t (c.map peek) K
  | .al id => match findL id regs with
    | some (.box _ c) => vcLoad P t (copyL c) K
    | _ => False
  | .po id k sz off => match findL id regs with
    | some (.box _ c) => match k, sz with
      | 0, 0 => vcLoad P t (copyL (c.drop off)) K
      | _, _ => False
    | some (.sl true _ sz' _ f xs) => match Nat.beq sz sz' with
      | true => k < xs.length ∧ ∀ x, xs[k]? = some x → vcLoad P t (((f x).map peek).drop off) K
      | false => False
    | _ => False
  | _ => False

theorem copyL_drop : ∀ (n : Nat) (l : List AV), copyL (l.drop n) = (copyL l).drop n
  | 0, l => by simp
  | n + 1, [] => by simp [copyL]
  | n + 1, a :: l => by simpa [copyL] using copyL_drop n l

theorem vcLoadAt_ok {P : Program} {regs : List AV} {t : TypeId} {p : AV} {K : AV → Prop} (h : vcLoadAt P regs t p K) {Z : FP} {η : Nat → Value} {w : World} {n : Nat} {vs : List Value}
    {S : FP} {x : Value} (hR : relSL Z η w regs vs S) (hI : idsBL n regs) (hx : relS Z η w p x (fun _ => False)) : POk P Z η w n (Instr.loadAt t x) K := by
  unfold vcLoadAt at h
  split at h
  · rename_i c
    simp only [relS, rel0] at hx
    obtain ⟨_, b, off, arr, ty, fr, cs, rest, S1, e, hz, hb, hd, hr, hS1⟩ := hx
    subst e
    obtain ⟨v, r, h1, h2, h3, h4⟩ := vcLoad_ok (n := n) h hb hd (peekL_rel _ _ _ hr) (peekL_ids n c)
    refine ⟨v, r, fun w' hw' => ?_, h2, h3, h4⟩
    simp only [Instr.loadAt, Instr.sureAddr]
    rw [run_bind]; exact h1 w' hw'
  · rename_i id
    simp only [relS] at hx
    obtain ⟨e, _⟩ := hx
    split at h
    · rename_i i c ho
      obtain ⟨A, hA, hi, hr⟩ := findL_ok regs vs S _ hR ho
      have hids := findL_ids regs _ hI ho
      simp only [relS] at hr
      obtain ⟨_, b, arr, ty, S1, e0, hb, hr, hj⟩ := hr
      have hrel := copyL_rel _ _ _ hr
      simp only [idsB] at hids
      obtain ⟨v, r, h1, h2, h3, h4⟩ := vcLoad_ok (n := n) (off := 0) h hb (cs := arr.toList) (rest := []) (by simp) hrel (copyL_ids _ hids.2)
      refine ⟨v, r, fun w' hw' => ?_, h2, h3, h4⟩
      rw [e, e0]
      simp only [Instr.loadAt, Instr.sureAddr]
      rw [run_bind]
      exact h1 w' hw'
    · exact h.elim
  · rename_i id k sz off
    simp only [relS] at hx
    obtain ⟨e, _⟩ := hx
    split at h
    · rename_i i c ho
      obtain ⟨A, hA, hi, hr⟩ := findL_ok regs vs S _ hR ho
      have hids := findL_ids regs _ hI ho
      split at h
      · simp only [relS] at hr
        obtain ⟨_, b, arr, ty, S1, e0, hb, hr, hj⟩ := hr
        have hrel := copyL_rel _ _ _ hr
        have hrel := relSL_drop off _ _ hrel
        rw [← copyL_drop] at hrel
        simp only [idsB] at hids
        obtain ⟨v, r, h1, h2, h3, h4⟩ := vcLoad_ok (n := n) (off := off) h hb (cs := arr.toList.drop off) (rest := []) (by simp) hrel (by rw [copyL_drop]; exact idsBL_drop _ _ (copyL_ids _ hids.2))
        refine ⟨v, r, fun w' hw' => ?_, h2, h3, h4⟩
        rw [e, e0]
        simp only [Instr.loadAt, Instr.sureAddr, baseOf]
        rw [run_bind]
        simpa [ad] using h1 w' hw'
      · exact h.elim
    · rename_i i sz' α f xs ho
      obtain ⟨A, hA, hi, hr⟩ := findL_ok regs vs S _ hR ho
      split at h
      · rename_i hsz
        have hsz := Nat.eq_of_beq_eq_true hsz
        subst hsz
        obtain ⟨hlt, h⟩ := h
        have hk : xs[k]? = some xs[k] := by simp
        have h := h _ hk
        simp only [relS, rel0] at hr
        obtain ⟨_, a, n', c, e0, hn, hc, hr⟩ := hr
        rcases hr with ⟨_, hr⟩ | ⟨ho, _⟩
        · rcases hr with ⟨ha, hc0, _⟩ | ⟨b, boff, arr, ty, S1, ha, hb, hsz, hrows, hj⟩
          · omega
          · obtain ⟨A', hA', hl, hr⟩ := rows_get xs _ S1 k xs[k] hrows hk
            rw [List.drop_drop] at hl hr
            have hp := peekL_rel (η := η) _ _ _ hr
            have hp := relSL_drop off _ _ hp
            obtain ⟨v, r, h1, h2, h3, h4⟩ := vcLoad_ok (n := n) (off := boff + (k * sz + off)) h hb (cs := ((arr.toList.drop (boff + k * sz)).take sz).drop off)
              (rest := (arr.toList.drop (boff + k * sz)).drop (max sz off)) (by
                rw [← Nat.add_assoc, ← List.drop_drop]
                generalize arr.toList.drop (boff + k * sz) = l
                rw [List.drop_take]
                rcases Nat.le_total off sz with hle | hle
                · rw [Nat.max_eq_left hle]
                  have e : l.drop sz = (l.drop off).drop (sz - off) := by rw [List.drop_drop]; congr 1; omega
                  rw [e, List.take_append_drop]
                · rw [Nat.max_eq_right hle, Nat.sub_eq_zero_of_le hle]; simp) hp (idsBL_drop _ _ (peekL_ids n _))
            refine ⟨v, r, fun w' hw' => ?_, h2, h3, h4⟩
            rw [e, e0, ha]
            simp only [Instr.loadAt, Instr.sureAddr, baseOf]
            rw [run_bind]
            exact h1 w' hw'
        · cases ho
      · exact h.elim
    · exact h.elim
  · exact h.elim

/- the address of a field -/
def fieldOff (P : Program) (s : TypeId) (f : Nat) : Option (Nat × Nat) :=
  match P.underlying s with
  | some (.struct fs) => match fs[f]? with
    | some fd => match P.info? fd.type with
      | some i => match i.size with
        | 0 => none
        | n + 1 => some (fd.offset, n + 1)
      | none => none
    | none => none
  | _ => none
def vcFieldAddr (P : Program) (regs : List AV) (s : TypeId) (f : Nat) (p : AV) (K : AV → Prop) : Prop :=
  match fieldOff P s f with
  | some (off, _) => match p with
    | .pf c => K (.pf (c.drop off))
    | .al id => match findL id regs with
      | some (.box _ _) => K (.po id 0 0 off)
      | _ => False
    | .po id k sz o => K (.po id k sz (o + off))
    | _ => False
  | none => False

theorem rel0L_drop {Z : FP} {w : World} : ∀ (n : Nat) (as : List AV) (cs : List Value) (S : FP), rel0L Z w as cs S → emp S → rel0L Z w (as.drop n) (cs.drop n) S
  | 0, as, cs, S, h, _ => by simpa using h
  | n + 1, [], cs, S, h, _ => by simp only [rel0L] at h; simp [h.1, rel0L, h.2]
  | n + 1, a :: as, cs, S, h, hS => by
    simp only [rel0L] at h
    obtain ⟨v, cs', A, B, e, hj, h1, h2⟩ := h
    have hB := (emp_of_join hj hS).2
    subst e
    rw [emp_eq hS]
    rw [emp_eq hB] at h2
    simpa using rel0L_drop n as cs' _ h2 emp_false

theorem vcFieldAddr_ok {P : Program} {regs : List AV} {s : TypeId} {f : Nat} {p : AV} {K : AV → Prop} (h : vcFieldAddr P regs s f p K) {Z : FP} {η : Nat → Value} {w : World} {n : Nat} {x : Value}
    {vs : List Value} {S : FP} (hR : relSL Z η w regs vs S) (hx : relS Z η w p x (fun _ => False)) (hi : idsB n p) : POk P Z η w n (Instr.fieldAt s x f) K := by
  unfold vcFieldAddr at h
  split at h
  · rename_i off q hf
    unfold fieldOff at hf
    split at hf
    · rename_i fs hu
      split at hf
      · rename_i fd hfd
        split at hf
        · rename_i i hinfo
          split at hf
          · cases hf
          · rename_i m hm
            simp only [Option.some.injEq, Prod.mk.injEq] at hf
            obtain ⟨rfl, rfl⟩ := hf
            have hrun : ∀ (a : Addr) (w : World), (Instr.fieldAt s (.pointer (some a)) f).run P w = .ok (.pointer (some (a.add fd.offset))) w := by
              intro a w
              unfold Instr.fieldAt
              rw [run_bind_ok (run_underlying hu w)]
              simp only [hfd, Instr.sureAddr]
              rw [run_bind_ok (run_pure' P _ w)]
              unfold fieldPlace
              rw [run_bind_ok (x := a.add fd.offset) (w' := w) ?_]
              · rfl
              · rw [run_bind_ok (run_sizeOf hinfo w), hm]; rfl
            split at h
            · rename_i c
              simp only [relS, rel0] at hx
              obtain ⟨_, b, off, arr, ty, fr, cs, rest, S1, e, hz, hb, hd, hr, hS1⟩ := hx
              subst e
              refine ⟨_, .pf (c.drop fd.offset), fun w' _ => hrun _ w', ?_, trivial, h⟩
              simp only [relS, rel0]
              refine ⟨emp_false, b, off + fd.offset, arr, ty, fr, cs.drop fd.offset, (cs ++ rest).drop (max cs.length fd.offset), S1, congrArg (fun a => Value.pointer (some a)) (ad_add b off fd.offset), hz, hb, ?_, rel0L_drop _ _ _ _ hr hS1, hS1⟩
              rw [← List.drop_drop, hd]
              rcases Nat.le_total fd.offset cs.length with hle | hle
              · rw [Nat.max_eq_left hle, List.drop_append_of_le_length hle]; simp
              · rw [Nat.max_eq_right hle, List.drop_eq_nil_of_le hle]; simp
            · rename_i id
              split at h
              · rename_i i c ho
                obtain ⟨A, hA, hi', hr⟩ := findL_ok regs vs S _ hR ho
                simp only [relS] at hr hx
                obtain ⟨_, b, arr, ty, S1, e0, _⟩ := hr
                rw [hx.1, e0]
                refine ⟨_, .po id 0 0 fd.offset, fun w' _ => hrun _ w', ?_, hi, h⟩
                simp only [relS]
                refine ⟨?_, emp_false⟩
                rw [e0]
                have := ad_add b 0 fd.offset
                unfold ad at this
                rw [this]; simp [baseOf]
              · exact h.elim
            · rename_i id k sz o
              simp only [relS] at hx
              rw [hx.1]
              refine ⟨_, .po id k sz (o + fd.offset), fun w' _ => hrun _ w', ?_, hi, h⟩
              simp only [relS]
              refine ⟨?_, emp_false⟩
              have := ad_add (baseOf (η id)).block ((baseOf (η id)).off + (k * sz + o)) fd.offset
              unfold ad at this
              rw [this]; congr 3; omega
            · exact h.elim
        · cases hf
      · cases hf
    · cases hf
  · exact h.elim

end Go.Eng
