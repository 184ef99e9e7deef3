/- A part of the proof: the engine and the contracts, joined. -/
import Derived.Test.YtinkjpfkemkhaaaGreatDoorRI
import Derived.ProofKit
import Derived.Test.YtinkjpfkemkhaaaGreatDoorProg
section
/- What a reading of data says, in the engine's words. -/
set_option linter.unusedVariables false
set_option linter.unusedSimpArgs false
namespace Go.Eng

def Old (w : World) : FP := fun b => w.heap.size ≤ b

def Opens (P : Program) (t : TypeId) {α : Type} (f : α → List AV) (good : α → Prop) : Prop :=
  ∀ {H : Type} (enc : TypeId × Value → H) (w : World) (spare : Nat → Bool) (held : Bool) (fuel : Nat) (cs : List Value) (y : DataW H × List MemPlace),
    DataW.trod enc P w 0 spare held fuel t cs = some y → ∃ x : α, good x ∧ rel0L (Old w) w (f x) cs (fun _ => False)

theorem rel0L_one {Z : FP} {w : World} {a : AV} {v : Value} : rel0L Z w [a] [v] (fun _ => False) ↔ rel0 Z w a v (fun _ => False) := by
  simp only [rel0L]
  constructor
  · rintro ⟨u, cs', A, B, e, hj, h1, h2, h3⟩
    simp only [List.cons.injEq] at e
    obtain ⟨rfl, rfl⟩ := e
    have := (emp_of_join hj emp_false).1
    rwa [emp_eq this] at h1
  · intro h
    exact ⟨v, [], fun _ => False, fun _ => False, rfl, join_emp_left _, h, rfl, emp_false⟩

theorem rel0L_cons {Z : FP} {w : World} {a : AV} {azs : List AV} {v : Value} {vs : List Value} (h1 : rel0 Z w a v (fun _ => False)) (h2 : rel0L Z w azs vs (fun _ => False)) :
    rel0L Z w (a :: azs) (v :: vs) (fun _ => False) := by
  simp only [rel0L]
  exact ⟨v, vs, _, _, rfl, join_emp_left _, h1, h2⟩

theorem wf_int {k : IntKind} {n : Int} (h : (Lit.int k n).wf = true) : inR k n := by
  unfold inR
  simpa [Lit.wf] using h

theorem opens_int {P : Program} {t : TypeId} {k : IntKind} (ht : P.underlying t = some (.int k)) : Opens P t (fun n : Int => [.int k n]) (fun n => inR k n) := by
  intro H enc w spare held fuel cs y h
  obtain ⟨n, rfl, _, hw⟩ := DataW.trod_int ht h
  exact ⟨n, wf_int hw, rel0L_one.2 (by simp [rel0, emp])⟩
theorem opens_bool {P : Program} {t : TypeId} (ht : P.underlying t = some .bool) : Opens P t (fun b : Bool => [.bool b]) (fun _ => True) := by
  intro H enc w spare held fuel cs y h
  obtain ⟨n, rfl, _⟩ := DataW.trod_bool ht h
  exact ⟨n, trivial, rel0L_one.2 (by simp [rel0, emp])⟩
theorem opens_str {P : Program} {t : TypeId} (ht : P.underlying t = some .string) : Opens P t (fun s : List UInt8 => [.str s]) (fun s => s.length < 2 ^ 63) := by
  intro H enc w spare held fuel cs y h
  obtain ⟨n, rfl, _, hl⟩ := DataW.trod_string ht h
  refine ⟨n.data.toList, ?_, rel0L_one.2 ?_⟩
  · have : n.data.toList.length ≤ maxLen := hl
    unfold maxLen at this; omega
  · simp only [rel0]; exact ⟨trivial, emp_false⟩

theorem exists_list {α : Type} {p : Nat → α → Prop} : ∀ n, (∀ i, i < n → ∃ x, p i x) → ∃ l : List α, l.length = n ∧ ∀ i x, l[i]? = some x → p i x
  | 0, _ => ⟨[], rfl, fun i x h => by simp at h⟩
  | n + 1, h => by
    obtain ⟨l, hl, hp⟩ := exists_list n fun i hi => h i (by omega)
    obtain ⟨x, hx⟩ := h n (by omega)
    refine ⟨l ++ [x], by simp [hl], fun i y hy => ?_⟩
    by_cases hi : i < l.length
    · rw [List.getElem?_append_left hi] at hy; exact hp i y hy
    · rw [List.getElem?_append_right (by omega)] at hy
      have : i - l.length = 0 := by
        rcases Nat.eq_zero_or_pos (i - l.length) with h | h
        · exact h
        · rw [List.getElem?_eq_none (by simp; omega)] at hy; cases hy
      rw [this] at hy; simp at hy; subst hy
      rwa [show i = n by omega]

theorem rows_of {α : Type} {sz : Nat} {R : α → List Value → FP → Prop} : ∀ (xs : List α) (arr : List Value),
    (∀ (i : Nat) (x : α), xs[i]? = some x → ((arr.drop (i * sz)).take sz).length = sz ∧ R x ((arr.drop (i * sz)).take sz) (fun _ => False)) → Rows sz R xs arr (fun _ => False)
  | [], arr, h => emp_false
  | x :: xs, arr, h => by
    have h0 := h 0 x rfl
    simp only [Nat.zero_mul, List.drop_zero] at h0
    refine ⟨_, _, join_emp_left _, h0.1, h0.2, rows_of xs (arr.drop sz) fun i y hy => ?_⟩
    have := h (i + 1) y (by simpa using hy)
    rwa [Nat.succ_mul, Nat.add_comm, ← List.drop_drop] at this

theorem opens_slice {P : Program} {t e : TypeId} {sz : Nat} {α : Type} {f : α → List AV} {good : α → Prop} (ht : P.underlying t = some (.slice e)) (hc : P.cellsOf e = sz) (hpos : 0 < sz)
    (ho : Opens P e f good) : Opens P t (fun l : List α => [.sl false 0 sz α f l]) (fun l => l.length < 2 ^ 63 ∧ ∀ x ∈ l, good x) := by
  intro H enc w spare held fuel cs y h
  rcases DataW.trod_slice ht h with ⟨rfl, _⟩ | ⟨a, len, cap, elems, rest, n, _, rfl, _, hb, hl, hm, hlen, hel, _, _⟩
  · refine ⟨[], ⟨by simp, by simp⟩, rel0L_one.2 ?_⟩
    simp only [rel0]
    exact ⟨none, 0, 0, rfl, rfl, Nat.le_refl _, .inr ⟨trivial, emp_false, .inl trivial⟩⟩
  · have each : ∀ i, i < len → ∃ x : α, good x ∧ ∃ cs, w.cells? 0 (a.add (i * sz)) sz = some cs ∧ rel0L (Old w) w (f x) cs (fun _ => False) := by
      intro i hi
      have h1 := hel i hi
      rw [hc] at h1
      rw [List.getElem?_eq_getElem (by omega : i < elems.length), Option.bind_eq_some_iff] at h1
      obtain ⟨cs, h2, h3⟩ := h1
      obtain ⟨x, hg, hr⟩ := ho enc w spare held n cs _ h3
      exact ⟨x, hg, cs, h2, hr⟩
    obtain ⟨l, hll, hp⟩ := exists_list len each
    refine ⟨l, ⟨?_, ?_⟩, rel0L_one.2 ?_⟩
    · unfold maxLen at hm; omega
    · intro x hx
      obtain ⟨i, hi⟩ := List.getElem?_of_mem hx
      exact (hp i x hi).1
    · simp only [rel0]
      refine ⟨some a, len, cap, rfl, hll.symm, hl, .inr ⟨trivial, emp_false, ?_⟩⟩
      rcases Nat.eq_zero_or_pos len with h0 | h0
      · exact .inl (List.length_eq_zero_iff.1 (by omega))
      · refine .inr ?_
        obtain ⟨x0, _, c0, hc0, _⟩ := each 0 h0
        have h00 := (World.cells?_some hc0).2.2 0 hpos
        have hcl := (World.cells?_some hc0).2.1
        simp only [Nat.zero_mul, Addr.add] at h00
        obtain ⟨b, off, sp⟩ := a
        simp only [World.cell?, if_true] at h00
        split at h00
        · rename_i arr ty fr harr
          split at h00
          · rw [List.getElem?_eq_getElem (by omega)] at h00; cases h00
          · rename_i hsp
            have hsp : sp = none := by simpa using hsp
            subst hsp
            have hlt : b < w.heap.size := by
              rcases Nat.lt_or_ge b w.heap.size with h | h
              · exact h
              · rw [Array.getElem?_eq_none h] at harr; cases harr
            refine ⟨b, off, arr, ty, fr, rfl, by unfold Old; omega, harr, rows_of l _ fun i x hx => ?_⟩
            have hi : i < l.length := (List.getElem?_eq_some_iff.1 hx).1
            obtain ⟨hg, cs, hcs, hr⟩ := hp i x hx
            obtain ⟨_, hcl, hce⟩ := World.cells?_some hcs
            have e : ((arr.toList.drop off).drop (i * sz)).take sz = cs := by
              refine List.ext_getElem? fun j => ?_
              rw [List.getElem?_take]
              split
              · rename_i hj
                have := hce j hj
                rw [← this]
                simp only [List.getElem?_drop, Array.getElem?_toList]
                have ea : ((⟨b, off, none⟩ : Addr).add (i * sz)).add j = ⟨b, off + i * sz + j, none⟩ := by
                  unfold Addr.add
                  by_cases h1 : i * sz = 0 <;> by_cases h2 : j = 0 <;> simp [h1, h2]
                rw [ea]
                simp only [World.cell?, harr]
                simp [Nat.add_assoc]
              · rw [List.getElem?_eq_none (by omega)]
            rw [e]
            exact ⟨hcl, hr⟩
        · rw [List.getElem?_eq_getElem (by omega)] at h00; cases h00

theorem trod_struct_cells {P : Program} {H : Type} {enc : TypeId × Value → H} {w : World} {base : Nat} {spare : Nat → Bool} {held : Bool} {fuel : Nat} {t : TypeId} {cs : List Value} {y : DataW H × List MemPlace} {fs : Array Field}
    (ht : P.underlying t = some (.struct fs)) (hn : P.cellsOf t = fs.size) (hf : ∀ (i : Nat) (f : Field), fs[i]? = some f → f.offset = i ∧ P.cellsOf f.type = 1)
    (h : DataW.trod enc P w base spare held fuel t cs = some y) : cs.length = fs.size ∧ ∃ n, ∀ (i : Nat) (f : Field) (c : Value), fs[i]? = some f → cs[i]? = some c →
      ∃ z, DataW.trod enc P w base spare held n f.type [c] = some z := by
  obtain ⟨xs, n, _, _, h1, h2, h3⟩ := DataW.trod_struct ht h
  refine ⟨by omega, n, fun i f c hi hc => ?_⟩
  have h4 := h3 i f hi
  rw [(hf i f hi).1, (hf i f hi).2] at h4
  have hlt : i < cs.length := (List.getElem?_eq_some_iff.1 hc).1
  have e : (cs.drop i).take 1 = [c] := by
    rw [List.drop_eq_getElem_cons hlt]
    simp only [List.take_succ_cons, List.take_zero, List.cons.injEq, and_true]
    exact (List.getElem?_eq_some_iff.1 hc).2
  rw [e] at h4
  rw [h4]
  have : i < xs.length := by omega
  exact ⟨xs[i], by simp [this]⟩
end Go.Eng
end
section
/- Numerals: the library's writer of them. -/
set_option linter.unusedVariables false
set_option linter.unusedSimpArgs false
namespace Go.My
open Go.Eng Go.Proofs
variable {G : GInv}

/- what the world holds: a table of the library's -/
theorem TabIs_at {P : Program} {w : World} {name : String} {k : IntKind} {zs : List Int} (h : Lib.TabIs P w name k zs) : ∃ g cs e p, P.globalNamed name = some g ∧ w.heap[g]? = some (.cells cs e p) ∧ cs = (zs.map fun z => Value.int k z).toArray := by
  unfold Lib.TabIs World.var? at h
  cases hg : P.globalNamed name with
  | none => rw [hg] at h; cases h
  | some g =>
    rw [hg] at h
    simp only [Option.bind_some] at h
    split at h
    · rename_i cs e p hc
      exact ⟨g, cs, e, p, rfl, hc, Option.some.inj h⟩
    · cases h
def tabG (P : Program) (name : String) (k : IntKind) (zs : List Int) : GInv := ⟨fun Z w => Lib.TabIs P w name k zs ∧ ∀ g, P.globalNamed name = some g → ¬ Z g, by
  rintro Z Z' w w' hz ⟨h1, h2⟩
  obtain ⟨g, cs, e, p, hg, hc, hcs⟩ := TabIs_at h1
  have hlt : g < w.heap.size := by
    rcases Nat.lt_or_ge g w.heap.size with hh | hh
    · exact hh
    · rw [Array.getElem?_eq_none hh] at hc; cases hc
  obtain ⟨q1, q2⟩ := hz g (h2 g hg) hlt
  refine ⟨?_, fun g' hg' => ?_⟩
  · unfold Lib.TabIs World.var?
    rw [hg]
    simp only [Option.bind_some]
    rw [q2, hc, hcs]
  · have : g' = g := by rw [hg] at hg'; exact (Option.some.inj hg').symm
    rw [this]; exact q1⟩
def tabZ : GInv := tabG Go.Proofs.Tryz.prog "internal/strconv.uint64pow10" .u64 Lib.pow10Tab
def holdsTab (G : GInv) : Prop := ∀ Z w, G.p Z w → Lib.TabIs Go.Proofs.Tryz.prog w "internal/strconv.uint64pow10" .u64 Lib.pow10Tab
theorem tabZ_holds : holdsTab tabZ := fun Z w h => h.1
theorem tabZ_init {W : World} (h : Lib.TabIs Go.Proofs.Tryz.prog W "internal/strconv.uint64pow10" .u64 Lib.pow10Tab) : tabZ.p (Old W) W := by
  refine ⟨h, fun g hg hz => ?_⟩
  obtain ⟨g', cs, e, p, hg', hc, hcs⟩ := TabIs_at h
  have : g' = g := by rw [hg] at hg'; exact (Option.some.inj hg').symm
  subst this
  have hz : W.heap.size ≤ g' := hz
  rw [Array.getElem?_eq_none hz] at hc; cases hc
def s_itoaC : Sig := { X := Int, args := fun x => [.int .i64 x], pre := fun x => -9223372036854775808 ≤ x ∧ x ≤ 9223372036854775807, Y := Unit, post := fun _ _ => True, res := fun x _ => .str (itoaL x), outs := fun _ _ => [.top], keep := false }
theorem itoaC_ok (hT : holdsTab G) : Contract G Go.Proofs.Tryz.prog 165 s_itoaC := by
  refine ⟨⟨⟨_, Go.Proofs.Tryz.func165, by kernel_rfl, by kernel_rfl⟩, fun x y _ _ => ⟨trivial, trivial, trivial⟩⟩, ?_⟩
  rintro x ⟨h0, h1⟩ Z w vals A hG h hA
  simp only [s_itoaC, rel0L, rel0] at h
  obtain ⟨v, cs, A1, A2, rfl, _, ⟨rfl, _⟩, rfl, _⟩ := h
  refine (Any.strconv_Itoa Go.Proofs.Tryz.laysM171 x h0 h1 w (hT Z w hG)).mono ?_
  rintro e w' ⟨rfl, k, os, rfl⟩
  refine ⟨(), _, Z, (fun _ => False), trivial, rfl, ?_, ⟨rfl, rfl, rfl, ?_, fun b hb _ => ⟨?_, Iff.rfl⟩, fun _ h => h.elim⟩⟩
  · simp only [s_itoaC, rel0L, rel0]
    exact ⟨_, _, _, _, rfl, join_emp_left _, ⟨rfl, emp_false⟩, _, _, _, _, rfl, join_emp_left _, emp_false, rfl, emp_false⟩
  · show w.heap.size ≤ (w.heap ++ os).size
    rw [Array.size_append]; omega
  · show (w.heap ++ os)[b]? = w.heap[b]?
    rw [Array.getElem?_append_left hb]
def s_iDecimal  : Sig := { X := Int, args := fun x => [.int .i64 x], pre := fun x => -9223372036854775808 ≤ x ∧ x ≤ 9223372036854775807, Y := Unit, post := fun x y => True, res := fun x y => .str (itoaL x), outs := fun x y => [.top], keep := false }
theorem iDecimal_vc (x : Int) : vcFun Go.Proofs.Tryz.prog (Γof [(165, 0, s_itoaC)]) (Eof []) false (Lof ([])) Go.Proofs.Tryz.f131.ntmps Go.Proofs.Tryz.f131.results.toList (Go.Proofs.Tryz.f131.body.getD .skip) s_iDecimal x = ((∀ (y : Unit), True → True ∧ True ∧ True) ∧ ∃ (x_1 : Int), ((-9223372036854775808 : Int) ≤ x_1 ∧ x_1 ≤ (9223372036854775807 : Int)) ∧ x = x_1 ∧ ∀ (y : Unit), True → ∃ (y : Unit), True ∧ itoaL x_1 = itoaL x ∧ True) := by kernel_rfl
theorem iDecimal_ok  (hT : holdsTab G) : Contract G Tryz.prog 131 s_iDecimal :=
  vcFun_ok (Γ := Γof [(165, 0, s_itoaC)]) (E := Eof []) (ov := false) (L := fun x => Lof ([])) Tryz.func131 rfl (by decide) (Γof_ok (l := [(165, 0, s_itoaC)]) ⟨(itoaC_ok hT), trivial⟩) fun (x : Int) (hx : -9223372036854775808 ≤ x ∧ x ≤ 9223372036854775807) => (iDecimal_vc  x).mpr (by
  obtain ⟨h1, h2⟩ := hx
  (repeat' first | with_reducible rfl | exact True.intro | refine inR_i64 ?_ ?_ | with_reducible refine And.intro ?_ ?_ | with_reducible refine bcase_dec (fun _ => ?_) (fun _ => ?_) | with_reducible refine bcase_bne (fun _ => ?_) (fun _ => ?_) | with_reducible refine bcase_beq (fun _ => ?_) (fun _ => ?_) | with_reducible refine bcase_not (fun _ => ?_) (fun _ => ?_) | refine bcase_intro (fun _ => ?_) (fun _ => ?_) | refine sl_eq ?_ | refine ex_flip () ?_ ?_ | (apply ex_flip6 <;> try dsimp only) | (apply ex_flip5 <;> try dsimp only) | (apply ex_flip4 <;> try dsimp only) | (apply ex_flip3 <;> try dsimp only) | (apply ex_flip2 <;> try dsimp only) | apply ex_flip | (refine Prod.forall.2 ?_; intro _; try dsimp only) | (intro _; try dsimp only)) <;> (try dsimp only at *) <;> (try simp only [i64max, List.length_cons, List.length_nil]) <;> (try omega))

end Go.My
end
section
/- Trees with numbers in the place of what is foldable: the functions. -/
set_option linter.unusedVariables false
set_option linter.unusedSimpArgs false
namespace Go.My
open Go.Eng Go.Proofs
variable {G : GInv}

theorem consP_up {ns : List Nd} {k : Int} (h : okNds ns) (hl : ns.length ≤ 2 ^ 30) (hu : okUp ns k) : consP topN (ns, k) := by
  have := isNd_iff.1 hu.1
  refine ⟨h, hu, ?_⟩
  simp only [topN]; omega
def s_iFoldU  : Sig := { X := List Nd × Int, args := fun x => [nds x.1, .int .i64 x.2], pre := fun x => okNds x.1 ∧ x.1.length ≤ 2 ^ 30 ∧ okUp x.1 x.2, Y := Unit, post := fun x y => True, res := fun x y => .bool (foldC x.1 x.2), outs := fun x y => [.top, .top], keep := false }
theorem iFoldU_vc (x : List Nd × Int) : vcFun Go.Proofs.Tryz.prog (Γof [(130, 0, (s_cR topN)), (92, 0, s_inRange)]) (Eof []) false (Lof ([])) Go.Proofs.Tryz.f129.ntmps Go.Proofs.Tryz.f129.results.toList (Go.Proofs.Tryz.f129.body.getD .skip) s_iFoldU x = ((∀ (y : Unit), True → True ∧ True ∧ True ∧ True) ∧ ((0 : Int) ≤ x.snd ∧ x.snd < (↑(List.length x.fst) : Int)) ∧ ∀ (e : Nd), x.fst[Int.toNat x.snd]? = some e → bcase (e.kind != (7 : Int)) (∃ (y : Unit), True ∧ false = foldC x.fst x.snd ∧ True) (∃ (x_1 : List Nd × Int), consP topN x_1 ∧ AV.sl false (0 : Nat) (4 : Nat) Nd (ndA false) x.fst = AV.sl false (0 : Nat) (4 : Nat) Nd (ndA false) x_1.fst ∧ x.snd = x_1.snd ∧ ∀ (y : Unit), True → bcase (Option.isSome (cV x_1.fst x_1.snd)) (∃ (x_2 : Int × Int × Int), True ∧ oI (cV x_1.fst x_1.snd) = x_2.fst ∧ (0 : Int) = x_2.snd.fst ∧ (999999999 : Int) = x_2.snd.snd ∧ ∀ (y : Unit), True → ∃ (y : Unit), True ∧ inn x_2.fst x_2.snd.fst x_2.snd.snd = foldC x.fst x.snd ∧ True) (∃ (y : Unit), True ∧ false = foldC x.fst x.snd ∧ True))) := by kernel_rfl
theorem iFoldU_ok  : Contract G Tryz.prog 129 s_iFoldU :=
  vcFun_ok (Γ := Γof [(130, 0, (s_cR topN)), (92, 0, s_inRange)]) (E := Eof []) (ov := false) (L := fun x => Lof ([])) Tryz.func129 rfl (by decide) (Γof_ok (l := [(130, 0, (s_cR topN)), (92, 0, s_inRange)]) ⟨(constOf_all topN), inRange_ok, trivial⟩) fun (x : List Nd × Int) (hx : okNds x.1 ∧ x.1.length ≤ 2 ^ 30 ∧ okUp x.1 x.2) => (iFoldU_vc  x).mpr (by
  obtain ⟨h1, h2, h3⟩ := hx
  have hr := isNd_iff.1 h3.1
  (repeat' first | with_reducible rfl | exact True.intro | refine inR_i64 ?_ ?_ | with_reducible refine And.intro ?_ ?_ | with_reducible refine bcase_dec (fun _ => ?_) (fun _ => ?_) | with_reducible refine bcase_bne (fun _ => ?_) (fun _ => ?_) | with_reducible refine bcase_beq (fun _ => ?_) (fun _ => ?_) | with_reducible refine bcase_not (fun _ => ?_) (fun _ => ?_) | refine bcase_intro (fun _ => ?_) (fun _ => ?_) | refine sl_eq ?_ | refine ex_flip () ?_ ?_ | (apply ex_flip6 <;> try dsimp only) | (apply ex_flip5 <;> try dsimp only) | (apply ex_flip4 <;> try dsimp only) | (apply ex_flip3 <;> try dsimp only) | (apply ex_flip2 <;> try dsimp only) | apply ex_flip | (refine Prod.forall.2 ?_; intro _; try dsimp only) | (intro _; try dsimp only))
  all_goals first
    | exact h1
    | exact h2
    | omega
    | exact consP_up h1 h2 h3
    | (simp [foldC, kindAt, ndAt_of (show x.1[Int.toNat x.2]? = some _ by assumption), oI, *]; done)
    | skip)

def s_sFoldU  : Sig := { X := List Nd × Int, args := fun x => [nds x.1, .int .i64 x.2], pre := fun x => okNds x.1 ∧ x.1.length ≤ 2 ^ 30 ∧ okUp x.1 x.2, Y := Unit, post := fun x y => True, res := fun x y => .tup [.int .i64 (if kindAt x.1 x.2 = 7 then oI (cV x.1 x.2) else 0), .bool (foldC x.1 x.2)], outs := fun x y => [.top, .top], keep := false }
theorem sFoldU_vc (x : List Nd × Int) : vcFun Go.Proofs.Tryz.prog (Γof [(161, 0, (s_lR topN)), (84, 0, s_l01In)]) (Eof []) false (Lof ([])) Go.Proofs.Tryz.f127.ntmps Go.Proofs.Tryz.f127.results.toList (Go.Proofs.Tryz.f127.body.getD .skip) s_sFoldU x = ((∀ (y : Unit), True → (True ∧ True ∧ True) ∧ True ∧ True ∧ True) ∧ ((0 : Int) ≤ x.snd ∧ x.snd < (↑(List.length x.fst) : Int)) ∧ ∀ (e : Nd), x.fst[Int.toNat x.snd]? = some e → bcase (e.kind != (7 : Int)) (∃ (y : Unit), True ∧ ((0 : Int) = if kindAt x.fst x.snd = (7 : Int) then oI (cV x.fst x.snd) else (0 : Int)) ∧ false = foldC x.fst x.snd ∧ True) (∃ (x_1 : List Nd × Int), consP topN x_1 ∧ AV.sl false (0 : Nat) (4 : Nat) Nd (ndA false) x.fst = AV.sl false (0 : Nat) (4 : Nat) Nd (ndA false) x_1.fst ∧ x.snd = x_1.snd ∧ ∀ (y : Unit), True → bcase (Option.isSome (cV x_1.fst x_1.snd)) (∃ (x_2 : Int × Int × Int), True ∧ oI (cV x_1.fst x_1.snd) = x_2.fst ∧ (0 : Int) = x_2.snd.fst ∧ (999999999 : Int) = x_2.snd.snd ∧ ∀ (y : Unit), True → ∃ (y : Unit), True ∧ (oI (cV x_1.fst x_1.snd) = if kindAt x.fst x.snd = (7 : Int) then oI (cV x.fst x.snd) else (0 : Int)) ∧ inn x_2.fst x_2.snd.fst x_2.snd.snd = foldC x.fst x.snd ∧ True) (∃ (y : Unit), True ∧ (oI (cV x_1.fst x_1.snd) = if kindAt x.fst x.snd = (7 : Int) then oI (cV x.fst x.snd) else (0 : Int)) ∧ false = foldC x.fst x.snd ∧ True))) := by kernel_rfl
theorem sFoldU_ok  : Contract G Tryz.prog 127 s_sFoldU :=
  vcFun_ok (Γ := Γof [(161, 0, (s_lR topN)), (84, 0, s_l01In)]) (E := Eof []) (ov := false) (L := fun x => Lof ([])) Tryz.func127 rfl (by decide) (Γof_ok (l := [(161, 0, (s_lR topN)), (84, 0, s_l01In)]) ⟨(l25_all topN), l01In_ok, trivial⟩) fun (x : List Nd × Int) (hx : okNds x.1 ∧ x.1.length ≤ 2 ^ 30 ∧ okUp x.1 x.2) => (sFoldU_vc  x).mpr (by
  obtain ⟨h1, h2, h3⟩ := hx
  have hr := isNd_iff.1 h3.1
  (repeat' first | with_reducible rfl | exact True.intro | refine inR_i64 ?_ ?_ | with_reducible refine And.intro ?_ ?_ | with_reducible refine bcase_dec (fun _ => ?_) (fun _ => ?_) | with_reducible refine bcase_bne (fun _ => ?_) (fun _ => ?_) | with_reducible refine bcase_beq (fun _ => ?_) (fun _ => ?_) | with_reducible refine bcase_not (fun _ => ?_) (fun _ => ?_) | refine bcase_intro (fun _ => ?_) (fun _ => ?_) | refine sl_eq ?_ | refine ex_flip () ?_ ?_ | (apply ex_flip6 <;> try dsimp only) | (apply ex_flip5 <;> try dsimp only) | (apply ex_flip4 <;> try dsimp only) | (apply ex_flip3 <;> try dsimp only) | (apply ex_flip2 <;> try dsimp only) | apply ex_flip | (refine Prod.forall.2 ?_; intro _; try dsimp only) | (intro _; try dsimp only))
  all_goals first
    | exact h1
    | exact h2
    | omega
    | exact consP_up h1 h2 h3
    | (simp [foldC, kindAt, ndAt_of (show x.1[Int.toNat x.2]? = some _ by assumption), oI, *]; done)
    | skip)

def s_fd (n : Nat) : Sig := { X := List Nd × Int × List Nd × Int, args := fun x => [.box 0 [nds x.1, onds x.2.2.1, .int .i64 x.2.2.2], .int .i64 x.2.1], pre := fun x => fdP n x, Y := Unit, post := fun x y => True, res := fun x y => .int .i64 ((putN x.1 (rFd x.1) n x.2.1 x.2.2.1).length - 1), outs := fun x y => [.box 0 [nds x.1, onds (putN x.1 (rFd x.1) n x.2.1 x.2.2.1), .int .i64 (x.2.2.2 + fCnt x.1 n x.2.1)], .top], keep := true }
def s_fdZ  : Sig := { X := List Nd × Int × List Nd × Int, args := fun x => [.box 0 [nds x.1, onds x.2.2.1, .int .i64 x.2.2.2], .int .i64 x.2.1], pre := fun x => fdP 0 x, Y := Unit, post := fun x y => True, res := fun x y => .int .i64 ((putN x.1 (rFd x.1) 0 x.2.1 x.2.2.1).length - 1), outs := fun x y => [.box 0 [nds x.1, onds (putN x.1 (rFd x.1) 0 x.2.1 x.2.2.1), .int .i64 (x.2.2.2 + fCnt x.1 0 x.2.1)], .top], keep := true }
theorem fdZ_vc (x : List Nd × Int × List Nd × Int) : vcFun Go.Proofs.Tryz.prog (Γof []) (Eof []) false (Lof ([])) Go.Proofs.Tryz.f73.ntmps Go.Proofs.Tryz.f73.results.toList (Go.Proofs.Tryz.f73.body.getD .skip) s_fdZ x = (True ∧ ((0 : Int) ≤ x.snd.fst ∧ x.snd.fst < (↑(List.length x.fst) : Int)) ∧ ∀ (e : Nd), x.fst[Int.toNat x.snd.fst]? = some e → False) := by kernel_rfl
theorem fdZ_ok  : Contract G Tryz.prog 73 s_fdZ :=
  vcFun_ok (Γ := Γof []) (E := Eof []) (ov := false) (L := fun x => Lof ([])) Tryz.func73 rfl (by decide) (Γof_ok (l := []) trivial) fun (x : List Nd × Int × List Nd × Int) (hx : fdP 0 x) => (fdZ_vc  x).mpr (by
  have h1 := hx.1.2.2.1; have h2 := isNd_iff.1 hx.1.2.1.1
  simp only at h1 h2
  omega)

def fF (x : List Nd × Int × List Nd × Int) : Int := if foldC x.1 x.2.1 then x.2.2.2 + 1 else x.2.2.2
def lFdJ (x : List Nd × Int × List Nd × Int) : LS := {
  ι := Unit, inv := fun _ => True,
  regs := fun _ => [(0, .box 0 [nds x.1, onds x.2.2.1, .int .i64 (fF x)]), (5, .box 0 (ndA false (fNd x.1 x.2.1)))], als := [], meas := fun _ => 0 }
def lFdL (n : Nat) (x : List Nd × Int × List Nd × Int) : LS := {
  ι := Int × List Nd × List Int × Int, inv := fun i => fkI x.1 n x.2.1 x.2.2.1 x.2.2.2 i.1 i.2.1 i.2.2.1 i.2.2.2,
  regs := fun i => [(0, .box 0 [nds x.1, onds i.2.1, .int .i64 i.2.2.2]), (5, .box 0 (ndA false (fNd x.1 x.2.1))), (8, oints i.2.2.1), (45, ints (fNd x.1 x.2.1).kids), (46, .int .i64 (fNd x.1 x.2.1).kids.length), (47, .int .i64 i.1)], als := [], meas := fun i => (fNd x.1 x.2.1).kids.length - i.1.toNat }
def lFdC (n : Nat) (x : List Nd × Int × List Nd × Int) : LS := {
  ι := Unit, inv := fun _ => True,
  regs := fun _ => [(0, .box 0 [nds x.1, onds (putN x.1 (rFd x.1) (n + 1) x.2.1 x.2.2.1), .int .i64 (x.2.2.2 + fCnt x.1 (n + 1) x.2.1)])], als := [], meas := fun _ => 0 }
theorem fF_yes {x : List Nd × Int × List Nd × Int} (h : foldC x.1 x.2.1 = true) : fF x = x.2.2.2 + 1 := by rw [fF, if_pos h]
theorem fF_no {x : List Nd × Int × List Nd × Int} (h : foldC x.1 x.2.1 = false) : fF x = x.2.2.2 := by rw [fF, if_neg (by simp [h])]
theorem fkI_0 {x : List Nd × Int × List Nd × Int} {n : Nat} : fkI x.1 n x.2.1 x.2.2.1 x.2.2.2 0 x.2.2.1 [] (fF x) := fkI_init
def s_fdS (n : Nat) : Sig := { X := List Nd × Int × List Nd × Int, args := fun x => [.box 0 [nds x.1, onds x.2.2.1, .int .i64 x.2.2.2], .int .i64 x.2.1], pre := fun x => fdP (n + 1) x, Y := Unit, post := fun x y => True, res := fun x y => .int .i64 ((putN x.1 (rFd x.1) (n + 1) x.2.1 x.2.2.1).length - 1), outs := fun x y => [.box 0 [nds x.1, onds (putN x.1 (rFd x.1) (n + 1) x.2.1 x.2.2.1), .int .i64 (x.2.2.2 + fCnt x.1 (n + 1) x.2.1)], .top], keep := true }
theorem fdS_vc (n : Nat) (x : List Nd × Int × List Nd × Int) : vcFun Go.Proofs.Tryz.prog (Γof [(73, 0, (s_fd n)), (129, 0, s_iFoldU), (130, 0, (s_cR topN)), (131, 0, s_iDecimal)]) (Eof [(39, ⟨Int,intA⟩), (24, ⟨Nd,ndA true⟩)]) false (Lof ([(200006,lFdJ x), (8,lFdL n x), (100014,lFdC n x)])) Go.Proofs.Tryz.f73.ntmps Go.Proofs.Tryz.f73.results.toList (Go.Proofs.Tryz.f73.body.getD .skip) (s_fdS n) x = (True ∧ ((0 : Int) ≤ x.snd.fst ∧ x.snd.fst < (↑(List.length x.fst) : Int)) ∧ ∀ (e : Nd), x.fst[Int.toNat x.snd.fst]? = some e → (∃ (x_1 : List Nd × Int), (okNds x_1.fst ∧ List.length x_1.fst ≤ (1073741824 : Nat) ∧ okUp x_1.fst x_1.snd) ∧ AV.sl false (0 : Nat) (4 : Nat) Nd (ndA false) x.fst = AV.sl false (0 : Nat) (4 : Nat) Nd (ndA false) x_1.fst ∧ x.snd.fst = x_1.snd ∧ ∀ (y : Unit), True → bcase (foldC x_1.fst x_1.snd) (∃ (x_2 : List Nd × Int), consP topN x_2 ∧ AV.sl false (0 : Nat) (4 : Nat) Nd (ndA false) x.fst = AV.sl false (0 : Nat) (4 : Nat) Nd (ndA false) x_2.fst ∧ x.snd.fst = x_2.snd ∧ ∀ (y : Unit), True → ∃ (x_3 : Int), ((-9223372036854775808 : Int) ≤ x_3 ∧ x_3 ≤ (9223372036854775807 : Int)) ∧ oI (cV x_2.fst x_2.snd) = x_3 ∧ ∀ (y : Unit), True → inR IntKind.i64 (x.snd.snd.snd + (1 : Int)) ∧ ∃ (i : Unit), True ∧ (AV.sl false (0 : Nat) (4 : Nat) Nd (ndA false) x.fst = AV.sl false (0 : Nat) (4 : Nat) Nd (ndA false) x.fst ∧ AV.sl true (0 : Nat) (4 : Nat) Nd (ndA true) x.snd.snd.fst = AV.sl true (0 : Nat) (4 : Nat) Nd (ndA true) x.snd.snd.fst ∧ x.snd.snd.snd + (1 : Int) = fF x ∧ (2 : Int) = (fNd x.fst x.snd.fst).kind ∧ itoaL x_3 = (fNd x.fst x.snd.fst).text ∧ (fNd x.fst x.snd.fst).kids = [] ∧ false = (fNd x.fst x.snd.fst).blank ∧ True) ∧ True) (∃ (i : Unit), True ∧ (AV.sl false (0 : Nat) (4 : Nat) Nd (ndA false) x.fst = AV.sl false (0 : Nat) (4 : Nat) Nd (ndA false) x.fst ∧ AV.sl true (0 : Nat) (4 : Nat) Nd (ndA true) x.snd.snd.fst = AV.sl true (0 : Nat) (4 : Nat) Nd (ndA true) x.snd.snd.fst ∧ x.snd.snd.snd = fF x ∧ e.kind = (fNd x.fst x.snd.fst).kind ∧ e.text = (fNd x.fst x.snd.fst).text ∧ AV.sl false (0 : Nat) (1 : Nat) Int intA e.kids = AV.sl false (0 : Nat) (1 : Nat) Int intA (fNd x.fst x.snd.fst).kids ∧ e.blank = (fNd x.fst x.snd.fst).blank ∧ True) ∧ True)) ∧ ∀ (i : Unit), True → (∃ (i : Int × List Nd × List Int × Int), fkI x.fst n x.snd.fst x.snd.snd.fst x.snd.snd.snd i.fst i.snd.fst i.snd.snd.fst i.snd.snd.snd ∧ (AV.sl false (0 : Nat) (4 : Nat) Nd (ndA false) x.fst = AV.sl false (0 : Nat) (4 : Nat) Nd (ndA false) x.fst ∧ AV.sl true (0 : Nat) (4 : Nat) Nd (ndA true) x.snd.snd.fst = AV.sl true (0 : Nat) (4 : Nat) Nd (ndA true) i.snd.fst ∧ fF x = i.snd.snd.snd ∧ (fNd x.fst x.snd.fst).kind = (fNd x.fst x.snd.fst).kind ∧ (fNd x.fst x.snd.fst).text = (fNd x.fst x.snd.fst).text ∧ AV.sl false (0 : Nat) (1 : Nat) Int intA (fNd x.fst x.snd.fst).kids = AV.sl false (0 : Nat) (1 : Nat) Int intA (fNd x.fst x.snd.fst).kids ∧ (fNd x.fst x.snd.fst).blank = (fNd x.fst x.snd.fst).blank ∧ i.snd.snd.fst = [] ∧ AV.sl false (0 : Nat) (1 : Nat) Int intA (fNd x.fst x.snd.fst).kids = AV.sl false (0 : Nat) (1 : Nat) Int intA (fNd x.fst x.snd.fst).kids ∧ (↑(List.length (fNd x.fst x.snd.fst).kids) : Int) = (↑(List.length (fNd x.fst x.snd.fst).kids) : Int) ∧ (0 : Int) = i.fst ∧ True) ∧ True) ∧ ∀ (i : Int × List Nd × List Int × Int), fkI x.fst n x.snd.fst x.snd.snd.fst x.snd.snd.snd i.fst i.snd.fst i.snd.snd.fst i.snd.snd.snd → bcase (decide (i.fst < (↑(List.length (fNd x.fst x.snd.fst).kids) : Int))) (((0 : Int) ≤ i.fst ∧ i.fst < (↑(List.length (fNd x.fst x.snd.fst).kids) : Int)) ∧ ∀ (e : Int), (fNd x.fst x.snd.fst).kids[Int.toNat i.fst]? = some e → ∃ (x_1 : List Nd × Int × List Nd × Int), fdP n x_1 ∧ AV.sl false (0 : Nat) (4 : Nat) Nd (ndA false) x.fst = AV.sl false (0 : Nat) (4 : Nat) Nd (ndA false) x_1.fst ∧ AV.sl true (0 : Nat) (4 : Nat) Nd (ndA true) i.snd.fst = AV.sl true (0 : Nat) (4 : Nat) Nd (ndA true) x_1.snd.snd.fst ∧ i.snd.snd.snd = x_1.snd.snd.snd ∧ e = x_1.snd.fst ∧ ∀ (y : Unit), True → ∃ (x_2 : Int), (↑(List.length (putN x_1.fst (rFd x_1.fst) n x_1.snd.fst x_1.snd.snd.fst)) : Int) - (1 : Int) = x_2 ∧ ∃ (zs : List Int), AV.sl true (0 : Nat) (1 : Nat) Int intA [x_2] = AV.sl true (0 : Nat) (1 : Nat) Int intA zs ∧ leafy intA ∧ room (List.length i.snd.snd.fst + List.length zs) (8 : Nat) ∧ inR IntKind.i64 (i.fst + (1 : Int)) ∧ ∃ (i' : Int × List Nd × List Int × Int), fkI x.fst n x.snd.fst x.snd.snd.fst x.snd.snd.snd i'.fst i'.snd.fst i'.snd.snd.fst i'.snd.snd.snd ∧ List.length (fNd x.fst x.snd.fst).kids - Int.toNat i'.fst < List.length (fNd x.fst x.snd.fst).kids - Int.toNat i.fst ∧ (AV.sl false (0 : Nat) (4 : Nat) Nd (ndA false) x_1.fst = AV.sl false (0 : Nat) (4 : Nat) Nd (ndA false) x.fst ∧ AV.sl true (0 : Nat) (4 : Nat) Nd (ndA true) (putN x_1.fst (rFd x_1.fst) n x_1.snd.fst x_1.snd.snd.fst) = AV.sl true (0 : Nat) (4 : Nat) Nd (ndA true) i'.snd.fst ∧ x_1.snd.snd.snd + fCnt x_1.fst n x_1.snd.fst = i'.snd.snd.snd ∧ (fNd x.fst x.snd.fst).kind = (fNd x.fst x.snd.fst).kind ∧ (fNd x.fst x.snd.fst).text = (fNd x.fst x.snd.fst).text ∧ AV.sl false (0 : Nat) (1 : Nat) Int intA (fNd x.fst x.snd.fst).kids = AV.sl false (0 : Nat) (1 : Nat) Int intA (fNd x.fst x.snd.fst).kids ∧ (fNd x.fst x.snd.fst).blank = (fNd x.fst x.snd.fst).blank ∧ AV.sl true (0 : Nat) (1 : Nat) Int intA (i.snd.snd.fst ++ zs) = AV.sl true (0 : Nat) (1 : Nat) Int intA i'.snd.snd.fst ∧ AV.sl false (0 : Nat) (1 : Nat) Int intA (fNd x.fst x.snd.fst).kids = AV.sl false (0 : Nat) (1 : Nat) Int intA (fNd x.fst x.snd.fst).kids ∧ (↑(List.length (fNd x.fst x.snd.fst).kids) : Int) = (↑(List.length (fNd x.fst x.snd.fst).kids) : Int) ∧ i.fst + (1 : Int) = i'.fst ∧ True) ∧ True) (true = true ∧ ((∃ (x_1 : Nd), (fNd x.fst x.snd.fst).kind = x_1.kind ∧ (fNd x.fst x.snd.fst).text = x_1.text ∧ AV.sl true (0 : Nat) (1 : Nat) Int intA i.snd.snd.fst = AV.sl true (0 : Nat) (1 : Nat) Int intA x_1.kids ∧ (fNd x.fst x.snd.fst).blank = x_1.blank ∧ ∃ (zs : List Nd), AV.sl true (0 : Nat) (4 : Nat) Nd (ndA true) [x_1] = AV.sl true (0 : Nat) (4 : Nat) Nd (ndA true) zs ∧ leafy (ndA true) ∧ room (List.length i.snd.fst + List.length zs) (56 : Nat) ∧ true = true ∧ ∃ (i_1 : Unit), True ∧ (AV.sl false (0 : Nat) (4 : Nat) Nd (ndA false) x.fst = AV.sl false (0 : Nat) (4 : Nat) Nd (ndA false) x.fst ∧ AV.sl true (0 : Nat) (4 : Nat) Nd (ndA true) (i.snd.fst ++ zs) = AV.sl true (0 : Nat) (4 : Nat) Nd (ndA true) (putN x.fst (rFd x.fst) (n + (1 : Nat)) x.snd.fst x.snd.snd.fst) ∧ i.snd.snd.snd = x.snd.snd.snd + fCnt x.fst (n + (1 : Nat)) x.snd.fst ∧ True) ∧ True) ∧ (∃ (x_1 : Nd), (fNd x.fst x.snd.fst).kind = x_1.kind ∧ (fNd x.fst x.snd.fst).text = x_1.text ∧ AV.sl true (0 : Nat) (1 : Nat) Int intA i.snd.snd.fst = AV.sl true (0 : Nat) (1 : Nat) Int intA x_1.kids ∧ (fNd x.fst x.snd.fst).blank = x_1.blank ∧ ∃ (zs : List Nd), AV.sl true (0 : Nat) (4 : Nat) Nd (ndA true) [x_1] = AV.sl true (0 : Nat) (4 : Nat) Nd (ndA true) zs ∧ leafy (ndA true) ∧ room (List.length i.snd.fst + List.length zs) (56 : Nat) ∧ true = true ∧ ∃ (i_1 : Unit), True ∧ (AV.sl false (0 : Nat) (4 : Nat) Nd (ndA false) x.fst = AV.sl false (0 : Nat) (4 : Nat) Nd (ndA false) x.fst ∧ AV.sl true (0 : Nat) (4 : Nat) Nd (ndA true) (i.snd.fst ++ zs) = AV.sl true (0 : Nat) (4 : Nat) Nd (ndA true) (putN x.fst (rFd x.fst) (n + (1 : Nat)) x.snd.fst x.snd.snd.fst) ∧ i.snd.snd.snd = x.snd.snd.snd + fCnt x.fst (n + (1 : Nat)) x.snd.fst ∧ True) ∧ True) ∧ ∃ (x_1 : Nd), (fNd x.fst x.snd.fst).kind = x_1.kind ∧ (fNd x.fst x.snd.fst).text = x_1.text ∧ AV.sl true (0 : Nat) (1 : Nat) Int intA i.snd.snd.fst = AV.sl true (0 : Nat) (1 : Nat) Int intA x_1.kids ∧ (fNd x.fst x.snd.fst).blank = x_1.blank ∧ ∃ (zs : List Nd), AV.sl true (0 : Nat) (4 : Nat) Nd (ndA true) [x_1] = AV.sl true (0 : Nat) (4 : Nat) Nd (ndA true) zs ∧ leafy (ndA true) ∧ room (List.length i.snd.fst + List.length zs) (56 : Nat) ∧ true = true ∧ ∃ (i_1 : Unit), True ∧ (AV.sl false (0 : Nat) (4 : Nat) Nd (ndA false) x.fst = AV.sl false (0 : Nat) (4 : Nat) Nd (ndA false) x.fst ∧ AV.sl true (0 : Nat) (4 : Nat) Nd (ndA true) (i.snd.fst ++ zs) = AV.sl true (0 : Nat) (4 : Nat) Nd (ndA true) (putN x.fst (rFd x.fst) (n + (1 : Nat)) x.snd.fst x.snd.snd.fst) ∧ i.snd.snd.snd = x.snd.snd.snd + fCnt x.fst (n + (1 : Nat)) x.snd.fst ∧ True) ∧ True) ∧ ∀ (i : Unit), True → inR IntKind.i64 ((↑(List.length (putN x.fst (rFd x.fst) (n + (1 : Nat)) x.snd.fst x.snd.snd.fst)) : Int) - (1 : Int)) ∧ ∃ (y : Unit), True ∧ (↑(List.length (putN x.fst (rFd x.fst) (n + (1 : Nat)) x.snd.fst x.snd.snd.fst)) : Int) - (1 : Int) = (↑(List.length (putN x.fst (rFd x.fst) (n + (1 : Nat)) x.snd.fst x.snd.snd.fst)) : Int) - (1 : Int) ∧ AV.sl false (0 : Nat) (4 : Nat) Nd (ndA false) x.fst = AV.sl false (0 : Nat) (4 : Nat) Nd (ndA false) x.fst ∧ AV.sl true (0 : Nat) (4 : Nat) Nd (ndA true) (putN x.fst (rFd x.fst) (n + (1 : Nat)) x.snd.fst x.snd.snd.fst) = AV.sl true (0 : Nat) (4 : Nat) Nd (ndA true) (putN x.fst (rFd x.fst) (n + (1 : Nat)) x.snd.fst x.snd.snd.fst) ∧ x.snd.snd.snd + fCnt x.fst (n + (1 : Nat)) x.snd.fst = x.snd.snd.snd + fCnt x.fst (n + (1 : Nat)) x.snd.fst ∧ True)) := by kernel_rfl
set_option maxHeartbeats 4000000 in
theorem fdS_ok (n : Nat) (hT : holdsTab G) (hc : Contract G Go.Proofs.Tryz.prog 73 (s_fd n)) : Contract G Tryz.prog 73 (s_fdS n) :=
  vcFun_ok (Γ := Γof [(73, 0, (s_fd n)), (129, 0, s_iFoldU), (130, 0, (s_cR topN)), (131, 0, s_iDecimal)]) (E := Eof [(39, ⟨Int,intA⟩), (24, ⟨Nd,ndA true⟩)]) (ov := false) (L := fun x => Lof ([(200006,lFdJ x), (8,lFdL n x), (100014,lFdC n x)])) Tryz.func73 rfl (by decide) (Γof_ok (l := [(73, 0, (s_fd n)), (129, 0, s_iFoldU), (130, 0, (s_cR topN)), (131, 0, s_iDecimal)]) ⟨hc, iFoldU_ok, (constOf_all topN), (iDecimal_ok hT), trivial⟩) fun (x : List Nd × Int × List Nd × Int) (hx : fdP (n + 1) x) => (fdS_vc n x).mpr (by
  have hx1 := hx.1; have h1 := hx1.1; have hl := h1.1; have hu := hx1.2.1; have hn := isNd_iff.1 hu.1
  simp only at h1 hl hu hn
  have hl30 : x.1.length ≤ 2 ^ 30 := hx.2.2
  have hf0 := hx.2.1
  obtain ⟨z, hz⟩ : ∃ z, x.1[x.2.1.toNat]? = some z := ⟨x.1[x.2.1.toNat], by simp⟩
  simp only [hz, Option.some.injEq, forall_eq']
  (repeat' first | refine ex_ndp ?_ | with_reducible rfl | exact True.intro | refine inR_i64 ?_ ?_ | with_reducible refine And.intro ?_ ?_ | with_reducible refine bcase_dec (fun _ => ?_) (fun _ => ?_) | with_reducible refine bcase_bne (fun _ => ?_) (fun _ => ?_) | with_reducible refine bcase_beq (fun _ => ?_) (fun _ => ?_) | with_reducible refine bcase_not (fun _ => ?_) (fun _ => ?_) | refine bcase_intro (fun _ => ?_) (fun _ => ?_) | refine sl_eq ?_ | refine ex_flip () ?_ ?_ | (apply ex_flip6 <;> try dsimp only) | (apply ex_flip5 <;> try dsimp only) | (apply ex_flip4 <;> try dsimp only) | (apply ex_flip3 <;> try dsimp only) | (apply ex_flip2 <;> try dsimp only) | apply ex_flip | (refine Prod.forall.2 ?_; intro _; try dsimp only) | (intro _; try dsimp only))
  all_goals first
    | rfl
    | omega
    | exact h1
    | exact hl
    | exact hl30
    | exact hu
    | exact consP_up h1 hl30 hu
    | exact fkI_0
    | exact fkI_next hx (by assumption) (by assumption)
    | exact fkI_pre hx (by assumption) (by assumption)
    | (have hq := fkI_len hx (by assumption); (try simp only [i64max, room, List.length_append, List.length_cons, List.length_nil]); omega)
    | (rw [fNd_yes (by assumption)]; rfl)
    | (rw [fNd_no (by assumption), ndAt_of hz]; done)
    | (rw [fF_yes (by assumption)]; done)
    | (rw [fF_no (by assumption)]; done)
    | exact (fkI_done (by assumption) (by assumption)).1
    | exact (fkI_done (by assumption) (by assumption)).2
    | (have hq := fkI_len hx (by assumption); have hd := (fkI_done (by assumption) (by assumption)).1; rw [← hd]; (try simp only [i64max, List.length_append, List.length_cons, List.length_nil]); omega)
    | (have hc0 := foldC_bd (show foldC x.1 x.2.1 = true by assumption); omega)
    | (have hq := fkI_pre hx (by assumption) (by assumption); have hq2 := putF_bd hq; (try simp only [i64max, room, List.length_append, List.length_cons, List.length_nil]); omega)
    | skip)

--proofs
theorem fd_all (hT : holdsTab G) : ∀ n : Nat, Contract G Go.Proofs.Tryz.prog 73 (s_fd n)
  | 0 => fdZ_ok
  | n + 1 => fdS_ok n hT (fd_all hT n)
--end
def s_iFolded  : Sig := { X := List Nd, args := fun x => [nds x], pre := fun x => okNds x ∧ kidsB x, Y := Unit, post := fun x y => True, res := fun x y => onds (foldedL x), outs := fun x y => [.top], keep := false }
theorem iFolded_vc (x : List Nd) : vcFun Go.Proofs.Tryz.prog (Γof [(52, 0, s_iTreeOk), (53, 0, s_copyNodes), (73, 0, (s_fd bigN))]) (Eof [(24, ⟨Nd,ndA true⟩)]) false (Lof ([])) Go.Proofs.Tryz.f33.ntmps Go.Proofs.Tryz.f33.results.toList (Go.Proofs.Tryz.f33.body.getD .skip) s_iFolded x = ((∀ (y : Unit), True → (∀ (x : Nd), True ∧ True ∧ (∀ (x : Int), True ∧ True) ∧ True ∧ True) ∧ True ∧ True) ∧ ∃ (x_1 : List Nd), (okNds x_1 ∧ List.length x_1 ≤ (1073741824 : Nat)) ∧ AV.sl false (0 : Nat) (4 : Nat) Nd (ndA false) x = AV.sl false (0 : Nat) (4 : Nat) Nd (ndA false) x_1 ∧ ∀ (y : Unit), True → bcase (!treeOk x_1) (∃ (x_2 : List Nd), kidsB x_2 ∧ AV.sl false (0 : Nat) (4 : Nat) Nd (ndA false) x = AV.sl false (0 : Nat) (4 : Nat) Nd (ndA false) x_2 ∧ ∀ (y : Unit), True → ∃ (y : Unit), True ∧ AV.sl true (0 : Nat) (4 : Nat) Nd (ndA true) x_2 = AV.sl true (0 : Nat) (4 : Nat) Nd (ndA true) (foldedL x) ∧ True) (inR IntKind.i64 ((↑(List.length x) : Int) - (1 : Int)) ∧ ∃ (x_2 : List Nd × Int × List Nd × Int), fdP bigN x_2 ∧ AV.sl false (0 : Nat) (4 : Nat) Nd (ndA false) x = AV.sl false (0 : Nat) (4 : Nat) Nd (ndA false) x_2.fst ∧ x_2.snd.snd.fst = [] ∧ (0 : Int) = x_2.snd.snd.snd ∧ (↑(List.length x) : Int) - (1 : Int) = x_2.snd.fst ∧ ∀ (y : Unit), True → ∃ (y : Unit), True ∧ AV.sl true (0 : Nat) (4 : Nat) Nd (ndA true) (putN x_2.fst (rFd x_2.fst) bigN x_2.snd.fst x_2.snd.snd.fst) = AV.sl true (0 : Nat) (4 : Nat) Nd (ndA true) (foldedL x) ∧ True)) := by kernel_rfl
theorem iFolded_ok  (hT : holdsTab G) : Contract G Tryz.prog 33 s_iFolded :=
  vcFun_ok (Γ := Γof [(52, 0, s_iTreeOk), (53, 0, s_copyNodes), (73, 0, (s_fd bigN))]) (E := Eof [(24, ⟨Nd,ndA true⟩)]) (ov := false) (L := fun x => Lof ([])) Tryz.func33 rfl (by decide) (Γof_ok (l := [(52, 0, s_iTreeOk), (53, 0, s_copyNodes), (73, 0, (s_fd bigN))]) ⟨iTreeOk_ok, copyNodes_ok, (fd_all hT bigN), trivial⟩) fun (x : List Nd) (hx : okNds x ∧ kidsB x) => (iFolded_vc  x).mpr (by
  obtain ⟨h1, h2⟩ := hx; have hl := h1.1; have h3 := h2.1
  (repeat' first | with_reducible rfl | exact True.intro | refine inR_i64 ?_ ?_ | with_reducible refine And.intro ?_ ?_ | with_reducible refine bcase_dec (fun _ => ?_) (fun _ => ?_) | with_reducible refine bcase_bne (fun _ => ?_) (fun _ => ?_) | with_reducible refine bcase_beq (fun _ => ?_) (fun _ => ?_) | with_reducible refine bcase_not (fun _ => ?_) (fun _ => ?_) | refine bcase_intro (fun _ => ?_) (fun _ => ?_) | refine sl_eq ?_ | refine ex_flip () ?_ ?_ | (apply ex_flip6 <;> try dsimp only) | (apply ex_flip5 <;> try dsimp only) | (apply ex_flip4 <;> try dsimp only) | (apply ex_flip3 <;> try dsimp only) | (apply ex_flip2 <;> try dsimp only) | apply ex_flip | (refine Prod.forall.2 ?_; intro _; try dsimp only) | (intro _; try dsimp only))
  all_goals first
    | rfl
    | exact h1
    | exact h2
    | exact h3
    | exact fdP_top (by assumption) h1
    | (rw [foldedL, if_pos (by assumption)]; done)
    | (rw [foldedL, if_neg (by simp [*])]; done)
    | (have ht := tree_len (by assumption); (try simp only [i64max]); omega)
    | ((try simp only [i64max]); omega)
    | skip)

def s_iFoldsIn  : Sig := { X := List Nd, args := fun x => [nds x], pre := fun x => okNds x ∧ kidsB x, Y := Unit, post := fun x y => True, res := fun x y => .int .i64 (foldsL x), outs := fun x y => [.top], keep := false }
theorem iFoldsIn_vc (x : List Nd) : vcFun Go.Proofs.Tryz.prog (Γof [(52, 0, s_iTreeOk), (73, 0, (s_fd bigN))]) (Eof [(24, ⟨Nd,ndA true⟩)]) false (Lof ([])) Go.Proofs.Tryz.f29.ntmps Go.Proofs.Tryz.f29.results.toList (Go.Proofs.Tryz.f29.body.getD .skip) s_iFoldsIn x = ((∀ (y : Unit), True → True ∧ True ∧ True) ∧ ∃ (x_1 : List Nd), (okNds x_1 ∧ List.length x_1 ≤ (1073741824 : Nat)) ∧ AV.sl false (0 : Nat) (4 : Nat) Nd (ndA false) x = AV.sl false (0 : Nat) (4 : Nat) Nd (ndA false) x_1 ∧ ∀ (y : Unit), True → bcase (!treeOk x_1) (∃ (y : Unit), True ∧ (0 : Int) = foldsL x ∧ True) (inR IntKind.i64 ((↑(List.length x) : Int) - (1 : Int)) ∧ ∃ (x_2 : List Nd × Int × List Nd × Int), fdP bigN x_2 ∧ AV.sl false (0 : Nat) (4 : Nat) Nd (ndA false) x = AV.sl false (0 : Nat) (4 : Nat) Nd (ndA false) x_2.fst ∧ x_2.snd.snd.fst = [] ∧ (0 : Int) = x_2.snd.snd.snd ∧ (↑(List.length x) : Int) - (1 : Int) = x_2.snd.fst ∧ ∀ (y : Unit), True → ∃ (y : Unit), True ∧ x_2.snd.snd.snd + fCnt x_2.fst bigN x_2.snd.fst = foldsL x ∧ True)) := by kernel_rfl
theorem iFoldsIn_ok  (hT : holdsTab G) : Contract G Tryz.prog 29 s_iFoldsIn :=
  vcFun_ok (Γ := Γof [(52, 0, s_iTreeOk), (73, 0, (s_fd bigN))]) (E := Eof [(24, ⟨Nd,ndA true⟩)]) (ov := false) (L := fun x => Lof ([])) Tryz.func29 rfl (by decide) (Γof_ok (l := [(52, 0, s_iTreeOk), (73, 0, (s_fd bigN))]) ⟨iTreeOk_ok, (fd_all hT bigN), trivial⟩) fun (x : List Nd) (hx : okNds x ∧ kidsB x) => (iFoldsIn_vc  x).mpr (by
  obtain ⟨h1, h2⟩ := hx; have hl := h1.1; have h3 := h2.1
  (repeat' first | with_reducible rfl | exact True.intro | refine inR_i64 ?_ ?_ | with_reducible refine And.intro ?_ ?_ | with_reducible refine bcase_dec (fun _ => ?_) (fun _ => ?_) | with_reducible refine bcase_bne (fun _ => ?_) (fun _ => ?_) | with_reducible refine bcase_beq (fun _ => ?_) (fun _ => ?_) | with_reducible refine bcase_not (fun _ => ?_) (fun _ => ?_) | refine bcase_intro (fun _ => ?_) (fun _ => ?_) | refine sl_eq ?_ | refine ex_flip () ?_ ?_ | (apply ex_flip6 <;> try dsimp only) | (apply ex_flip5 <;> try dsimp only) | (apply ex_flip4 <;> try dsimp only) | (apply ex_flip3 <;> try dsimp only) | (apply ex_flip2 <;> try dsimp only) | apply ex_flip | (refine Prod.forall.2 ?_; intro _; try dsimp only) | (intro _; try dsimp only))
  all_goals first
    | rfl
    | exact h1
    | exact h2
    | exact h3
    | exact fdP_top (by assumption) h1
    | (rw [foldsL, if_pos (by assumption)]; simp; done)
    | (rw [foldsL, if_neg (by simp [*])]; done)
    | (have ht := tree_len (by assumption); (try simp only [i64max]); omega)
    | ((try simp only [i64max]); omega)
    | skip)

end Go.My
end
section
/- Trees with numbers in the place of what is foldable: the reference's functions. -/
set_option linter.unusedVariables false
set_option linter.unusedSimpArgs false
namespace Go.My
open Go.Eng Go.Proofs
variable {G : GInv}

def fdP0 (n : Nat) (x : List Nd × Int × List Nd) : Prop := fdP n (x.1, x.2.1, x.2.2, 0)
def s_l25P (n : Nat) : Sig := { X := List Nd × Int × List Nd, args := fun x => [nds x.1, .int .i64 x.2.1, onds x.2.2], pre := fun x => fdP0 n x, Y := Unit, post := fun x y => True, res := fun x y => .tup [onds (putN x.1 (rFd x.1) n x.2.1 x.2.2), .int .i64 ((putN x.1 (rFd x.1) n x.2.1 x.2.2).length - 1), .int .i64 (fCnt x.1 n x.2.1)], outs := fun x y => [.top, .top, .top], keep := false }
def s_l25PZ  : Sig := { X := List Nd × Int × List Nd, args := fun x => [nds x.1, .int .i64 x.2.1, onds x.2.2], pre := fun x => fdP0 0 x, Y := Unit, post := fun x y => True, res := fun x y => .tup [onds (putN x.1 (rFd x.1) 0 x.2.1 x.2.2), .int .i64 ((putN x.1 (rFd x.1) 0 x.2.1 x.2.2).length - 1), .int .i64 (fCnt x.1 0 x.2.1)], outs := fun x y => [.top, .top, .top], keep := false }
theorem l25PZ_vc (x : List Nd × Int × List Nd) : vcFun Go.Proofs.Tryz.prog (Γof []) (Eof []) false (Lof ([])) Go.Proofs.Tryz.f72.ntmps Go.Proofs.Tryz.f72.results.toList (Go.Proofs.Tryz.f72.body.getD .skip) s_l25PZ x = ((∀ (y : Unit), True → ((∀ (x : Nd), True ∧ True ∧ (∀ (x : Int), True ∧ True) ∧ True ∧ True) ∧ True ∧ True ∧ True) ∧ True ∧ True ∧ True ∧ True) ∧ False) := by kernel_rfl
theorem l25PZ_ok  : Contract G Tryz.prog 72 s_l25PZ :=
  vcFun_ok (Γ := Γof []) (E := Eof []) (ov := false) (L := fun x => Lof ([])) Tryz.func72 rfl (by decide) (Γof_ok (l := []) trivial) fun (x : List Nd × Int × List Nd) (hx : fdP0 0 x) => (l25PZ_vc  x).mpr (by
  have h1 := hx.1.2.2.1; have h2 := isNd_iff.1 hx.1.2.1.1
  simp only at h1 h2
  omega)

def l25J (x : List Nd × Int × List Nd) : LS := {
  ι := Unit, inv := fun _ => foldC x.1 x.2.1 = false,
  regs := fun _ => [(0, nds x.1), (1, .int .i64 x.2.1), (2, onds x.2.2), (11, .box 0 [.int .i64 (ndAt x.1 x.2.1).kind, .str (ndAt x.1 x.2.1).text, oints [], .bool (ndAt x.1 x.2.1).blank])], als := [], meas := fun _ => 0 }
def l25L (n : Nat) (x : List Nd × Int × List Nd) : LS := {
  ι := Int × List Nd × List Int × Int, inv := fun i => fkI x.1 n x.2.1 x.2.2 0 i.1 i.2.1 i.2.2.1 i.2.2.2 ∧ foldC x.1 x.2.1 = false,
  regs := fun i => [(0, nds x.1), (1, .int .i64 x.2.1), (2, onds i.2.1), (11, .box 0 [.int .i64 (ndAt x.1 x.2.1).kind, .str (ndAt x.1 x.2.1).text, oints i.2.2.1, .bool (ndAt x.1 x.2.1).blank]), (12, .int .i64 i.2.2.2), (13, .int .i64 i.1)], als := [], meas := fun i => (ndAt x.1 x.2.1).kids.length - i.1.toNat }
theorem putF_stop {ns : List Nd} {n : Nat} {k : Int} {out : List Nd} (h : foldC ns k = true) : putN ns (rFd ns) (n + 1) k out = out ++ [fdNd ns k] := by rw [putN, rFd_stop h]
theorem fCnt_stop {ns : List Nd} {n : Nat} {k : Int} (h : foldC ns k = true) : fCnt ns (n + 1) k = 1 := by rw [fCnt, if_pos h]
theorem foldC_7 {ns : List Nd} {k : Int} (h : foldC ns k = true) : kindAt ns k = 7 := by
  simp only [foldC, Bool.and_eq_true, decide_eq_true_eq] at h; exact h.1
theorem fZ {ns : List Nd} {k : Int} {z : Nd} (hz : ns[k.toNat]? = some z) (h : foldC ns k = false) : fNd ns k = z := by rw [fNd_no h, ndAt_of hz]
theorem fkZ_pre {ns : List Nd} {n : Nat} {k : Int} {out0 : List Nd} {f0 i c : Int} {out : List Nd} {ks : List Int} {f : Int} {z : Nd} (hz : ns[k.toNat]? = some z) (hx : fdP (n + 1) (ns, k, out0, f0)) (h : fkI ns n k out0 f0 i out ks f ∧ foldC ns k = false) (hc : z.kids[i.toNat]? = some c) :
    fdP0 n (ns, c, out) := by
  have h0 := fkI_len hx h.1
  obtain ⟨h1, h2, h3⟩ := fkI_pre hx h.1 (by rw [fZ hz h.2]; exact hc)
  refine ⟨h1, ⟨Int.le_refl _, ?_⟩, h3⟩
  simp only at h2 ⊢; omega
theorem fkZ_next {ns : List Nd} {n : Nat} {k : Int} {out0 : List Nd} {f0 i c : Int} {out : List Nd} {ks : List Int} {f : Int} {z : Nd} (hz : ns[k.toNat]? = some z) (hx : fdP (n + 1) (ns, k, out0, f0)) (h : fkI ns n k out0 f0 i out ks f ∧ foldC ns k = false) (hc : z.kids[i.toNat]? = some c) :
    fkI ns n k out0 f0 (i + 1) (putN ns (rFd ns) n c out) (ks ++ [((putN ns (rFd ns) n c out).length : Int) - 1]) (f + fCnt ns n c) ∧ foldC ns k = false := ⟨fkI_next hx h.1 (by rw [fZ hz h.2]; exact hc), h.2⟩
theorem fkZ_len {ns : List Nd} {n : Nat} {k : Int} {out0 : List Nd} {f0 i : Int} {out : List Nd} {ks : List Int} {f : Int} {z : Nd} (hz : ns[k.toNat]? = some z) (hx : fdP (n + 1) (ns, k, out0, f0)) (h : fkI ns n k out0 f0 i out ks f ∧ foldC ns k = false) :
    (0 ≤ i ∧ i ≤ z.kids.length) ∧ z.kids.length ≤ 12 ∧ ks.length = i ∧ out.length ≤ 1048576 ∧ 0 ≤ f ∧ f ≤ 1048577 := by
  have := fkI_len hx h.1
  rwa [fZ hz h.2] at this
theorem fkZ_done {ns : List Nd} {n : Nat} {k : Int} {out0 : List Nd} {i : Int} {out : List Nd} {ks : List Int} {f : Int} {z : Nd} (hz : ns[k.toNat]? = some z) (h : fkI ns n k out0 0 i out ks f ∧ foldC ns k = false) (hl : ¬ i < z.kids.length) :
    out ++ [⟨z.kind, z.text, ks, z.blank⟩] = putN ns (rFd ns) (n + 1) k out0 ∧ f = fCnt ns (n + 1) k := by
  have := fkI_done h.1 (by rw [fZ hz h.2]; exact hl)
  rw [fZ hz h.2] at this
  exact ⟨this.1, by have := this.2; omega⟩
theorem fkZ_fin {ns : List Nd} {n : Nat} {k : Int} {out0 : List Nd} {i : Int} {out : List Nd} {ks : List Int} {f : Int} {z : Nd} (hz : ns[k.toNat]? = some z) (h : fkI ns n k out0 0 i out ks f ∧ foldC ns k = false) (hl : ¬ i < z.kids.length) :
    (out.length : Int) = (putN ns (rFd ns) (n + 1) k out0).length - 1 := by
  rw [← (fkZ_done hz h hl).1]; simp
theorem fkZ_bd {ns : List Nd} {n : Nat} {k : Int} {out0 : List Nd} {f0 i c : Int} {out : List Nd} {ks : List Int} {f : Int} {z : Nd} (hz : ns[k.toNat]? = some z) (hx : fdP (n + 1) (ns, k, out0, f0)) (h : fkI ns n k out0 f0 i out ks f ∧ foldC ns k = false) (hc : z.kids[i.toNat]? = some c) :
    1 ≤ (putN ns (rFd ns) n c out).length ∧ (putN ns (rFd ns) n c out).length ≤ 1048576 ∧ 0 ≤ f + fCnt ns n c ∧ f + fCnt ns n c ≤ 1048576 := putF_bd (fkI_pre hx h.1 (by rw [fZ hz h.2]; exact hc))
def s_l25PS (n : Nat) : Sig := { X := List Nd × Int × List Nd, args := fun x => [nds x.1, .int .i64 x.2.1, onds x.2.2], pre := fun x => fdP0 (n + 1) x, Y := Unit, post := fun x y => True, res := fun x y => .tup [onds (putN x.1 (rFd x.1) (n + 1) x.2.1 x.2.2), .int .i64 ((putN x.1 (rFd x.1) (n + 1) x.2.1 x.2.2).length - 1), .int .i64 (fCnt x.1 (n + 1) x.2.1)], outs := fun x y => [.top, .top, .top], keep := false }
theorem l25PS_vc (n : Nat) (x : List Nd × Int × List Nd) : vcFun Go.Proofs.Tryz.prog (Γof [(72, 0, (s_l25P n)), (127, 0, s_sFoldU), (128, 0, s_sDecimal)]) (Eof [(39, ⟨Int,intA⟩), (24, ⟨Nd,ndA true⟩)]) false (Lof ([(7,l25L n x), (100004,l25J x), (300014,l25J x), (300003,l25J x)])) Go.Proofs.Tryz.f72.ntmps Go.Proofs.Tryz.f72.results.toList (Go.Proofs.Tryz.f72.body.getD .skip) (s_l25PS n) x = ((∀ (y : Unit), True → ((∀ (x : Nd), True ∧ True ∧ (∀ (x : Int), True ∧ True) ∧ True ∧ True) ∧ True ∧ True ∧ True) ∧ True ∧ True ∧ True ∧ True) ∧ ∃ (x_1 : List Nd × Int), (okNds x_1.fst ∧ List.length x_1.fst ≤ (1073741824 : Nat) ∧ okUp x_1.fst x_1.snd) ∧ AV.sl false (0 : Nat) (4 : Nat) Nd (ndA false) x.fst = AV.sl false (0 : Nat) (4 : Nat) Nd (ndA false) x_1.fst ∧ x.snd.fst = x_1.snd ∧ ∀ (y : Unit), True → bcase (foldC x_1.fst x_1.snd) (true = true ∧ ∃ (x_2 : Int), ((0 : Int) ≤ x_2 ∧ x_2 ≤ (999999999 : Int)) ∧ (if kindAt x_1.fst x_1.snd = (7 : Int) then oI (cV x_1.fst x_1.snd) else (0 : Int)) = x_2 ∧ ∀ (y : Unit), True → ∃ (x_3 : Nd), (2 : Int) = x_3.kind ∧ itoaL x_2 = x_3.text ∧ AV.sl true (0 : Nat) (1 : Nat) Int intA [] = AV.sl true (0 : Nat) (1 : Nat) Int intA x_3.kids ∧ false = x_3.blank ∧ ∃ (zs : List Nd), AV.sl true (0 : Nat) (4 : Nat) Nd (ndA true) [x_3] = AV.sl true (0 : Nat) (4 : Nat) Nd (ndA true) zs ∧ leafy (ndA true) ∧ room (List.length x.snd.snd + List.length zs) (56 : Nat) ∧ ∃ (y : Unit), True ∧ AV.sl true (0 : Nat) (4 : Nat) Nd (ndA true) (x.snd.snd ++ zs) = AV.sl true (0 : Nat) (4 : Nat) Nd (ndA true) (putN x.fst (rFd x.fst) (n + (1 : Nat)) x.snd.fst x.snd.snd) ∧ (↑(List.length x.snd.snd) : Int) = (↑(List.length (putN x.fst (rFd x.fst) (n + (1 : Nat)) x.snd.fst x.snd.snd)) : Int) - (1 : Int) ∧ (1 : Int) = fCnt x.fst (n + (1 : Nat)) x.snd.fst ∧ True) (true = true ∧ (((0 : Int) ≤ x.snd.fst ∧ x.snd.fst < (↑(List.length x.fst) : Int)) ∧ ∀ (e : Nd), x.fst[Int.toNat x.snd.fst]? = some e → ((0 : Int) ≤ x.snd.fst ∧ x.snd.fst < (↑(List.length x.fst) : Int)) ∧ ∀ (e_1 : Nd), x.fst[Int.toNat x.snd.fst]? = some e_1 → ((0 : Int) ≤ x.snd.fst ∧ x.snd.fst < (↑(List.length x.fst) : Int)) ∧ ∀ (e_2 : Nd), x.fst[Int.toNat x.snd.fst]? = some e_2 → ((true = true ∧ ∃ (i : Unit), foldC x.fst x.snd.fst = false ∧ (AV.sl false (0 : Nat) (4 : Nat) Nd (ndA false) x.fst = AV.sl false (0 : Nat) (4 : Nat) Nd (ndA false) x.fst ∧ x.snd.fst = x.snd.fst ∧ AV.sl true (0 : Nat) (4 : Nat) Nd (ndA true) x.snd.snd = AV.sl true (0 : Nat) (4 : Nat) Nd (ndA true) x.snd.snd ∧ e.kind = (ndAt x.fst x.snd.fst).kind ∧ e_1.text = (ndAt x.fst x.snd.fst).text ∧ AV.sl true (0 : Nat) (1 : Nat) Int intA [] = AV.sl true (0 : Nat) (1 : Nat) Int intA [] ∧ e_2.blank = (ndAt x.fst x.snd.fst).blank ∧ True) ∧ True) ∧ true = true ∧ ∃ (i : Unit), foldC x.fst x.snd.fst = false ∧ (AV.sl false (0 : Nat) (4 : Nat) Nd (ndA false) x.fst = AV.sl false (0 : Nat) (4 : Nat) Nd (ndA false) x.fst ∧ x.snd.fst = x.snd.fst ∧ AV.sl true (0 : Nat) (4 : Nat) Nd (ndA true) x.snd.snd = AV.sl true (0 : Nat) (4 : Nat) Nd (ndA true) x.snd.snd ∧ e.kind = (ndAt x.fst x.snd.fst).kind ∧ e_1.text = (ndAt x.fst x.snd.fst).text ∧ AV.sl true (0 : Nat) (1 : Nat) Int intA [] = AV.sl true (0 : Nat) (1 : Nat) Int intA [] ∧ e_2.blank = (ndAt x.fst x.snd.fst).blank ∧ True) ∧ True) ∧ true = true ∧ ∃ (i : Unit), foldC x.fst x.snd.fst = false ∧ (AV.sl false (0 : Nat) (4 : Nat) Nd (ndA false) x.fst = AV.sl false (0 : Nat) (4 : Nat) Nd (ndA false) x.fst ∧ x.snd.fst = x.snd.fst ∧ AV.sl true (0 : Nat) (4 : Nat) Nd (ndA true) x.snd.snd = AV.sl true (0 : Nat) (4 : Nat) Nd (ndA true) x.snd.snd ∧ e.kind = (ndAt x.fst x.snd.fst).kind ∧ e_1.text = (ndAt x.fst x.snd.fst).text ∧ AV.sl true (0 : Nat) (1 : Nat) Int intA [] = AV.sl true (0 : Nat) (1 : Nat) Int intA [] ∧ e_2.blank = (ndAt x.fst x.snd.fst).blank ∧ True) ∧ True) ∧ ∀ (i : Unit), foldC x.fst x.snd.fst = false → (∃ (i : Int × List Nd × List Int × Int), (fkI x.fst n x.snd.fst x.snd.snd (0 : Int) i.fst i.snd.fst i.snd.snd.fst i.snd.snd.snd ∧ foldC x.fst x.snd.fst = false) ∧ (AV.sl false (0 : Nat) (4 : Nat) Nd (ndA false) x.fst = AV.sl false (0 : Nat) (4 : Nat) Nd (ndA false) x.fst ∧ x.snd.fst = x.snd.fst ∧ AV.sl true (0 : Nat) (4 : Nat) Nd (ndA true) x.snd.snd = AV.sl true (0 : Nat) (4 : Nat) Nd (ndA true) i.snd.fst ∧ (ndAt x.fst x.snd.fst).kind = (ndAt x.fst x.snd.fst).kind ∧ (ndAt x.fst x.snd.fst).text = (ndAt x.fst x.snd.fst).text ∧ AV.sl true (0 : Nat) (1 : Nat) Int intA [] = AV.sl true (0 : Nat) (1 : Nat) Int intA i.snd.snd.fst ∧ (ndAt x.fst x.snd.fst).blank = (ndAt x.fst x.snd.fst).blank ∧ (0 : Int) = i.snd.snd.snd ∧ (0 : Int) = i.fst ∧ True) ∧ True) ∧ ∀ (i : Int × List Nd × List Int × Int), fkI x.fst n x.snd.fst x.snd.snd (0 : Int) i.fst i.snd.fst i.snd.snd.fst i.snd.snd.snd ∧ foldC x.fst x.snd.fst = false → ((0 : Int) ≤ x.snd.fst ∧ x.snd.fst < (↑(List.length x.fst) : Int)) ∧ ∀ (e : Nd), x.fst[Int.toNat x.snd.fst]? = some e → bcase (decide (i.fst < (↑(List.length e.kids) : Int))) (((0 : Int) ≤ x.snd.fst ∧ x.snd.fst < (↑(List.length x.fst) : Int)) ∧ ∀ (e : Nd), x.fst[Int.toNat x.snd.fst]? = some e → ((0 : Int) ≤ i.fst ∧ i.fst < (↑(List.length e.kids) : Int)) ∧ ∀ (e_1 : Int), e.kids[Int.toNat i.fst]? = some e_1 → ∃ (x_2 : List Nd × Int × List Nd), fdP0 n x_2 ∧ AV.sl true (0 : Nat) (4 : Nat) Nd (ndA true) i.snd.fst = AV.sl true (0 : Nat) (4 : Nat) Nd (ndA true) x_2.snd.snd ∧ AV.sl false (0 : Nat) (4 : Nat) Nd (ndA false) x.fst = AV.sl false (0 : Nat) (4 : Nat) Nd (ndA false) x_2.fst ∧ e_1 = x_2.snd.fst ∧ ∀ (y : Unit), True → ∃ (x_3 : Int), (↑(List.length (putN x_2.fst (rFd x_2.fst) n x_2.snd.fst x_2.snd.snd)) : Int) - (1 : Int) = x_3 ∧ ∃ (zs : List Int), AV.sl true (0 : Nat) (1 : Nat) Int intA [x_3] = AV.sl true (0 : Nat) (1 : Nat) Int intA zs ∧ leafy intA ∧ room (List.length i.snd.snd.fst + List.length zs) (8 : Nat) ∧ inR IntKind.i64 (i.snd.snd.snd + fCnt x_2.fst n x_2.snd.fst) ∧ inR IntKind.i64 (i.fst + (1 : Int)) ∧ ∃ (i' : Int × List Nd × List Int × Int), (fkI x.fst n x.snd.fst x.snd.snd (0 : Int) i'.fst i'.snd.fst i'.snd.snd.fst i'.snd.snd.snd ∧ foldC x.fst x.snd.fst = false) ∧ List.length (ndAt x.fst x.snd.fst).kids - Int.toNat i'.fst < List.length (ndAt x.fst x.snd.fst).kids - Int.toNat i.fst ∧ (AV.sl false (0 : Nat) (4 : Nat) Nd (ndA false) x.fst = AV.sl false (0 : Nat) (4 : Nat) Nd (ndA false) x.fst ∧ x.snd.fst = x.snd.fst ∧ AV.sl true (0 : Nat) (4 : Nat) Nd (ndA true) (putN x_2.fst (rFd x_2.fst) n x_2.snd.fst x_2.snd.snd) = AV.sl true (0 : Nat) (4 : Nat) Nd (ndA true) i'.snd.fst ∧ (ndAt x.fst x.snd.fst).kind = (ndAt x.fst x.snd.fst).kind ∧ (ndAt x.fst x.snd.fst).text = (ndAt x.fst x.snd.fst).text ∧ AV.sl true (0 : Nat) (1 : Nat) Int intA (i.snd.snd.fst ++ zs) = AV.sl true (0 : Nat) (1 : Nat) Int intA i'.snd.snd.fst ∧ (ndAt x.fst x.snd.fst).blank = (ndAt x.fst x.snd.fst).blank ∧ i.snd.snd.snd + fCnt x_2.fst n x_2.snd.fst = i'.snd.snd.snd ∧ i.fst + (1 : Int) = i'.fst ∧ True) ∧ True) (true = true ∧ ∃ (x_2 : Nd), (ndAt x.fst x.snd.fst).kind = x_2.kind ∧ (ndAt x.fst x.snd.fst).text = x_2.text ∧ AV.sl true (0 : Nat) (1 : Nat) Int intA i.snd.snd.fst = AV.sl true (0 : Nat) (1 : Nat) Int intA x_2.kids ∧ (ndAt x.fst x.snd.fst).blank = x_2.blank ∧ ∃ (zs : List Nd), AV.sl true (0 : Nat) (4 : Nat) Nd (ndA true) [x_2] = AV.sl true (0 : Nat) (4 : Nat) Nd (ndA true) zs ∧ leafy (ndA true) ∧ room (List.length i.snd.fst + List.length zs) (56 : Nat) ∧ ∃ (y : Unit), True ∧ AV.sl true (0 : Nat) (4 : Nat) Nd (ndA true) (i.snd.fst ++ zs) = AV.sl true (0 : Nat) (4 : Nat) Nd (ndA true) (putN x.fst (rFd x.fst) (n + (1 : Nat)) x.snd.fst x.snd.snd) ∧ (↑(List.length i.snd.fst) : Int) = (↑(List.length (putN x.fst (rFd x.fst) (n + (1 : Nat)) x.snd.fst x.snd.snd)) : Int) - (1 : Int) ∧ i.snd.snd.snd = fCnt x.fst (n + (1 : Nat)) x.snd.fst ∧ True))) := by kernel_rfl
set_option maxHeartbeats 4000000 in
theorem l25PS_ok (n : Nat) (hc : Contract G Go.Proofs.Tryz.prog 72 (s_l25P n)) : Contract G Tryz.prog 72 (s_l25PS n) :=
  vcFun_ok (Γ := Γof [(72, 0, (s_l25P n)), (127, 0, s_sFoldU), (128, 0, s_sDecimal)]) (E := Eof [(39, ⟨Int,intA⟩), (24, ⟨Nd,ndA true⟩)]) (ov := false) (L := fun x => Lof ([(7,l25L n x), (100004,l25J x), (300014,l25J x), (300003,l25J x)])) Tryz.func72 rfl (by decide) (Γof_ok (l := [(72, 0, (s_l25P n)), (127, 0, s_sFoldU), (128, 0, s_sDecimal)]) ⟨hc, sFoldU_ok, sDecimal_ok, trivial⟩) fun (x : List Nd × Int × List Nd) (hx : fdP0 (n + 1) x) => (l25PS_vc n x).mpr (by
  have hx : fdP (n + 1) (x.1, x.2.1, x.2.2, 0) := hx
  have hx1 := hx.1; have h1 := hx1.1; have hl := h1.1; have hu := hx1.2.1; have hn := isNd_iff.1 hu.1
  simp only at h1 hl hu hn
  have hl30 : x.1.length ≤ 2 ^ 30 := hx.2.2
  obtain ⟨z, hz⟩ : ∃ z, x.1[x.2.1.toNat]? = some z := ⟨x.1[x.2.1.toNat], by simp⟩
  have hzz := ndAt_of hz
  have h0 : x.2.2.length ≤ 1048576 := by have := hx1.2.2.2; simp only at this; omega
  simp only [hz, Option.some.injEq, forall_eq', hzz]
  (repeat' first | refine ex_ndp ?_ | with_reducible rfl | exact True.intro | refine inR_i64 ?_ ?_ | with_reducible refine And.intro ?_ ?_ | with_reducible refine bcase_dec (fun _ => ?_) (fun _ => ?_) | with_reducible refine bcase_bne (fun _ => ?_) (fun _ => ?_) | with_reducible refine bcase_beq (fun _ => ?_) (fun _ => ?_) | with_reducible refine bcase_not (fun _ => ?_) (fun _ => ?_) | refine bcase_intro (fun _ => ?_) (fun _ => ?_) | refine sl_eq ?_ | refine ex_flip () ?_ ?_ | (apply ex_flip6 <;> try dsimp only) | (apply ex_flip5 <;> try dsimp only) | (apply ex_flip4 <;> try dsimp only) | (apply ex_flip3 <;> try dsimp only) | (apply ex_flip2 <;> try dsimp only) | apply ex_flip | (refine Prod.forall.2 ?_; intro _; try dsimp only) | (intro _; try dsimp only))
  all_goals try (rename foldC x.1 x.2.1 = true => hfc; have hc7 := foldC_7 hfc; have hcb := foldC_bd hfc; simp only [hc7, if_true])
  all_goals first
    | rfl
    | omega
    | exact h1
    | exact hl
    | exact hl30
    | exact hu
    | assumption
    | exact fkI_no (by assumption)
    | exact (fkZ_next hz hx (by assumption) (by assumption)).1
    | (rw [putF_stop (by assumption)]; rfl)
    | (rw [putF_stop (by assumption)]; simp; done)
    | (rw [fCnt_stop (by assumption)]; done)
    | exact fkZ_next hz hx (by assumption) (by assumption)
    | exact fkZ_pre hz hx (by assumption) (by assumption)
    | exact (fkZ_done hz (by assumption) (by assumption)).1
    | exact (fkZ_done hz (by assumption) (by assumption)).2
    | exact fkZ_fin hz (by assumption) (by assumption)
    | ((try simp only [i64max, room, List.length_append, List.length_cons, List.length_nil]); omega)
    | (have hq := fkZ_len hz hx (by assumption); (try simp only [i64max, room, List.length_append, List.length_cons, List.length_nil]); omega)
    | (have hq := fkZ_len hz hx (by assumption); have hq2 := fkZ_bd hz hx (by assumption) (by assumption); (try simp only [i64max, room, List.length_append, List.length_cons, List.length_nil]); omega)
    | skip)

--proofs
theorem l25P_all : ∀ n : Nat, Contract G Go.Proofs.Tryz.prog 72 (s_l25P n)
  | 0 => l25PZ_ok
  | n + 1 => l25PS_ok n (l25P_all n)
--end
theorem fdP0_top {ns : List Nd} (h : treeOk ns = true) (ho : okNds ns) : fdP0 bigN (ns, (ns.length : Int) - 1, []) := fdP_top h ho
def s_sFolded  : Sig := { X := List Nd, args := fun x => [nds x], pre := fun x => okNds x ∧ kidsB x, Y := Unit, post := fun x y => True, res := fun x y => onds (foldedL x), outs := fun x y => [.top], keep := false }
theorem sFolded_vc (x : List Nd) : vcFun Go.Proofs.Tryz.prog (Γof [(48, 0, s_sTreeOk), (49, 0, s_l05Copy), (72, 0, (s_l25P bigN))]) (Eof [(24, ⟨Nd,ndA true⟩)]) false (Lof ([])) Go.Proofs.Tryz.f32.ntmps Go.Proofs.Tryz.f32.results.toList (Go.Proofs.Tryz.f32.body.getD .skip) s_sFolded x = ((∀ (y : Unit), True → (∀ (x : Nd), True ∧ True ∧ (∀ (x : Int), True ∧ True) ∧ True ∧ True) ∧ True ∧ True) ∧ ∃ (x_1 : List Nd), (okNds x_1 ∧ List.length x_1 ≤ (1073741824 : Nat)) ∧ AV.sl false (0 : Nat) (4 : Nat) Nd (ndA false) x = AV.sl false (0 : Nat) (4 : Nat) Nd (ndA false) x_1 ∧ ∀ (y : Unit), True → bcase (!treeOk x_1) (∃ (x_2 : List Nd), kidsB x_2 ∧ AV.sl false (0 : Nat) (4 : Nat) Nd (ndA false) x = AV.sl false (0 : Nat) (4 : Nat) Nd (ndA false) x_2 ∧ ∀ (y : Unit), True → ∃ (y : Unit), True ∧ AV.sl true (0 : Nat) (4 : Nat) Nd (ndA true) x_2 = AV.sl true (0 : Nat) (4 : Nat) Nd (ndA true) (foldedL x) ∧ True) (inR IntKind.i64 ((↑(List.length x) : Int) - (1 : Int)) ∧ ∃ (x_2 : List Nd × Int × List Nd), fdP0 bigN x_2 ∧ AV.sl true (0 : Nat) (4 : Nat) Nd (ndA true) [] = AV.sl true (0 : Nat) (4 : Nat) Nd (ndA true) x_2.snd.snd ∧ AV.sl false (0 : Nat) (4 : Nat) Nd (ndA false) x = AV.sl false (0 : Nat) (4 : Nat) Nd (ndA false) x_2.fst ∧ (↑(List.length x) : Int) - (1 : Int) = x_2.snd.fst ∧ ∀ (y : Unit), True → ∃ (y : Unit), True ∧ AV.sl true (0 : Nat) (4 : Nat) Nd (ndA true) (putN x_2.fst (rFd x_2.fst) bigN x_2.snd.fst x_2.snd.snd) = AV.sl true (0 : Nat) (4 : Nat) Nd (ndA true) (foldedL x) ∧ True)) := by kernel_rfl
theorem sFolded_ok  : Contract G Tryz.prog 32 s_sFolded :=
  vcFun_ok (Γ := Γof [(48, 0, s_sTreeOk), (49, 0, s_l05Copy), (72, 0, (s_l25P bigN))]) (E := Eof [(24, ⟨Nd,ndA true⟩)]) (ov := false) (L := fun x => Lof ([])) Tryz.func32 rfl (by decide) (Γof_ok (l := [(48, 0, s_sTreeOk), (49, 0, s_l05Copy), (72, 0, (s_l25P bigN))]) ⟨sTreeOk_ok, l05Copy_ok, (l25P_all bigN), trivial⟩) fun (x : List Nd) (hx : okNds x ∧ kidsB x) => (sFolded_vc  x).mpr (by
  obtain ⟨h1, h2⟩ := hx; have hl := h1.1; have h3 := h2.1
  (repeat' first | with_reducible rfl | exact True.intro | refine inR_i64 ?_ ?_ | with_reducible refine And.intro ?_ ?_ | with_reducible refine bcase_dec (fun _ => ?_) (fun _ => ?_) | with_reducible refine bcase_bne (fun _ => ?_) (fun _ => ?_) | with_reducible refine bcase_beq (fun _ => ?_) (fun _ => ?_) | with_reducible refine bcase_not (fun _ => ?_) (fun _ => ?_) | refine bcase_intro (fun _ => ?_) (fun _ => ?_) | refine sl_eq ?_ | refine ex_flip () ?_ ?_ | (apply ex_flip6 <;> try dsimp only) | (apply ex_flip5 <;> try dsimp only) | (apply ex_flip4 <;> try dsimp only) | (apply ex_flip3 <;> try dsimp only) | (apply ex_flip2 <;> try dsimp only) | apply ex_flip | (refine Prod.forall.2 ?_; intro _; try dsimp only) | (intro _; try dsimp only))
  all_goals first
    | rfl
    | exact h1
    | exact h2
    | exact h3
    | exact fdP0_top (by assumption) h1
    | (rw [foldedL, if_pos (by assumption)]; done)
    | (rw [foldedL, if_neg (by simp [*])]; done)
    | (have ht := tree_len (by assumption); (try simp only [i64max]); omega)
    | ((try simp only [i64max]); omega)
    | skip)

def s_sFoldsIn  : Sig := { X := List Nd, args := fun x => [nds x], pre := fun x => okNds x ∧ kidsB x, Y := Unit, post := fun x y => True, res := fun x y => .int .i64 (foldsL x), outs := fun x y => [.top], keep := false }
theorem sFoldsIn_vc (x : List Nd) : vcFun Go.Proofs.Tryz.prog (Γof [(48, 0, s_sTreeOk), (72, 0, (s_l25P bigN))]) (Eof [(24, ⟨Nd,ndA true⟩)]) false (Lof ([])) Go.Proofs.Tryz.f28.ntmps Go.Proofs.Tryz.f28.results.toList (Go.Proofs.Tryz.f28.body.getD .skip) s_sFoldsIn x = ((∀ (y : Unit), True → True ∧ True ∧ True) ∧ ∃ (x_1 : List Nd), (okNds x_1 ∧ List.length x_1 ≤ (1073741824 : Nat)) ∧ AV.sl false (0 : Nat) (4 : Nat) Nd (ndA false) x = AV.sl false (0 : Nat) (4 : Nat) Nd (ndA false) x_1 ∧ ∀ (y : Unit), True → bcase (!treeOk x_1) (∃ (y : Unit), True ∧ (0 : Int) = foldsL x ∧ True) (inR IntKind.i64 ((↑(List.length x) : Int) - (1 : Int)) ∧ ∃ (x_2 : List Nd × Int × List Nd), fdP0 bigN x_2 ∧ AV.sl true (0 : Nat) (4 : Nat) Nd (ndA true) [] = AV.sl true (0 : Nat) (4 : Nat) Nd (ndA true) x_2.snd.snd ∧ AV.sl false (0 : Nat) (4 : Nat) Nd (ndA false) x = AV.sl false (0 : Nat) (4 : Nat) Nd (ndA false) x_2.fst ∧ (↑(List.length x) : Int) - (1 : Int) = x_2.snd.fst ∧ ∀ (y : Unit), True → ∃ (y : Unit), True ∧ fCnt x_2.fst bigN x_2.snd.fst = foldsL x ∧ True)) := by kernel_rfl
theorem sFoldsIn_ok  : Contract G Tryz.prog 28 s_sFoldsIn :=
  vcFun_ok (Γ := Γof [(48, 0, s_sTreeOk), (72, 0, (s_l25P bigN))]) (E := Eof [(24, ⟨Nd,ndA true⟩)]) (ov := false) (L := fun x => Lof ([])) Tryz.func28 rfl (by decide) (Γof_ok (l := [(48, 0, s_sTreeOk), (72, 0, (s_l25P bigN))]) ⟨sTreeOk_ok, (l25P_all bigN), trivial⟩) fun (x : List Nd) (hx : okNds x ∧ kidsB x) => (sFoldsIn_vc  x).mpr (by
  obtain ⟨h1, h2⟩ := hx; have hl := h1.1; have h3 := h2.1
  (repeat' first | with_reducible rfl | exact True.intro | refine inR_i64 ?_ ?_ | with_reducible refine And.intro ?_ ?_ | with_reducible refine bcase_dec (fun _ => ?_) (fun _ => ?_) | with_reducible refine bcase_bne (fun _ => ?_) (fun _ => ?_) | with_reducible refine bcase_beq (fun _ => ?_) (fun _ => ?_) | with_reducible refine bcase_not (fun _ => ?_) (fun _ => ?_) | refine bcase_intro (fun _ => ?_) (fun _ => ?_) | refine sl_eq ?_ | refine ex_flip () ?_ ?_ | (apply ex_flip6 <;> try dsimp only) | (apply ex_flip5 <;> try dsimp only) | (apply ex_flip4 <;> try dsimp only) | (apply ex_flip3 <;> try dsimp only) | (apply ex_flip2 <;> try dsimp only) | apply ex_flip | (refine Prod.forall.2 ?_; intro _; try dsimp only) | (intro _; try dsimp only))
  all_goals first
    | rfl
    | exact h1
    | exact h2
    | exact h3
    | exact fdP0_top (by assumption) h1
    | (rw [foldsL, if_pos (by assumption)]; done)
    | (rw [foldsL, if_neg (by simp [*])]; done)
    | (have ht := tree_len (by assumption); (try simp only [i64max]); omega)
    | ((try simp only [i64max]); omega)
    | skip)

end Go.My
end
section
/- Marks of nodes looked at again. -/
set_option linter.unusedVariables false
set_option linter.unusedSimpArgs false
namespace Go.My
open Go.Eng Go.Proofs
variable {G : GInv}

def lHdNs (x : List Nd × Int) : LS := {
  ι := Int, inv := qhI mkN szN x.2 x.1, regs := fun i => [(0, nds x.1), (1, .int .i64 (x.2 + gTot szN (x.1.take i.toNat))), (5, .int .i64 i)], als := [], meas := fun i => x.1.length - i.toNat }
theorem hN_at {k i : Int} {l : List Nd} {g : Nd} (h : qhI mkN szN k l i) (hg : l[i.toNat]? = some g) : g.kind = k + gTot szN (l.take i.toNat) ∧ g.text = mText (k + gTot szN (l.take i.toNat) + 1) ∧
    g.kids = mkI (k + gTot szN (l.take i.toNat) + 1 + 1) g.kids.length ∧ g.blank = ((k + gTot szN (l.take i.toNat) + 1 + 1 + g.kids.length).tmod 3 == 0) ∧ (szN g : Int) = g.kids.length + 3 := by
  have h2 := qhI_at h hg
  exact ⟨congrArg Nd.kind h2, congrArg Nd.text h2, congrArg Nd.kids h2, congrArg Nd.blank h2, by simp [szN]⟩
def s_heldNds  : Sig := { X := List Nd × Int, args := fun x => [nds x.1, .int .i64 x.2], pre := fun x => (qgB szN x.1 ∧ x.1 = gMk mkN szN x.2 x.1) ∧ 0 ≤ x.2 ∧ x.2 ≤ 2 ^ 50, Y := Unit, post := fun x y => True, res := fun x y => .int .i64 (x.2 + gTot szN x.1), outs := fun x y => [.top, .top], keep := false }
theorem heldNds_vc (x : List Nd × Int) : vcFun Go.Proofs.Tryz.prog (Γof [(60, 0, s_heldInts), (59, 0, s_markText)]) (Eof []) false (Lof ([(2,lHdNs x)])) Go.Proofs.Tryz.f17.ntmps Go.Proofs.Tryz.f17.results.toList (Go.Proofs.Tryz.f17.body.getD .skip) s_heldNds x = ((∀ (y : Unit), True → True ∧ True ∧ True ∧ True) ∧ (∃ (i : Int), qhI mkN szN x.snd x.fst i ∧ (AV.sl false (0 : Nat) (4 : Nat) Nd (ndA false) x.fst = AV.sl false (0 : Nat) (4 : Nat) Nd (ndA false) x.fst ∧ x.snd = x.snd + gTot szN (List.take (Int.toNat i) x.fst) ∧ (0 : Int) = i ∧ True) ∧ True) ∧ ∀ (i : Int), qhI mkN szN x.snd x.fst i → bcase (decide (i < (↑(List.length x.fst) : Int))) (((0 : Int) ≤ i ∧ i < (↑(List.length x.fst) : Int)) ∧ ∀ (e : Nd), x.fst[Int.toNat i]? = some e → bcase (e.kind != x.snd + gTot szN (List.take (Int.toNat i) x.fst)) (∃ (y : Unit), True ∧ (-1 : Int) = x.snd + gTot szN x.fst ∧ True) (inR IntKind.i64 (x.snd + gTot szN (List.take (Int.toNat i) x.fst) + (1 : Int)) ∧ true = true ∧ true = true ∧ ((0 : Int) ≤ i ∧ i < (↑(List.length x.fst) : Int)) ∧ ∀ (e : Nd), x.fst[Int.toNat i]? = some e → ∃ (x_1 : Int), x_1 ≤ (2 : Int) ^ (60 : Nat) ∧ x.snd + gTot szN (List.take (Int.toNat i) x.fst) + (1 : Int) = x_1 ∧ ∃ (y0 : Unit), (∀ (y : Unit), True → AV.str (mText x_1) = AV.str (mText x_1)) ∧ true = true ∧ bcase (!e.text == mText x_1) (∃ (y : Unit), True ∧ (-1 : Int) = x.snd + gTot szN x.fst ∧ True) (inR IntKind.i64 (x.snd + gTot szN (List.take (Int.toNat i) x.fst) + (1 : Int) + (1 : Int)) ∧ ((0 : Int) ≤ i ∧ i < (↑(List.length x.fst) : Int)) ∧ ∀ (e : Nd), x.fst[Int.toNat i]? = some e → ∃ (x_2 : List Int × Int), (x_2.fst = mkI x_2.snd (List.length x_2.fst) ∧ List.length x_2.fst ≤ (1099511627776 : Nat) ∧ (0 : Int) ≤ x_2.snd ∧ x_2.snd ≤ (2 : Int) ^ (60 : Nat)) ∧ AV.sl false (0 : Nat) (1 : Nat) Int intA e.kids = AV.sl false (0 : Nat) (1 : Nat) Int intA x_2.fst ∧ x.snd + gTot szN (List.take (Int.toNat i) x.fst) + (1 : Int) + (1 : Int) = x_2.snd ∧ ∀ (y : Unit), True → bcase (decide (x_2.snd + (↑(List.length x_2.fst) : Int) < (0 : Int))) (∃ (y : Unit), True ∧ (-1 : Int) = x.snd + gTot szN x.fst ∧ True) (((0 : Int) ≤ i ∧ i < (↑(List.length x.fst) : Int)) ∧ ∀ (e : Nd), x.fst[Int.toNat i]? = some e → (3 : Int) ≠ (0 : Int) ∧ bcase (!e.blank == (Int.tmod (x_2.snd + (↑(List.length x_2.fst) : Int)) (3 : Int) == (0 : Int))) (∃ (y : Unit), True ∧ (-1 : Int) = x.snd + gTot szN x.fst ∧ True) (inR IntKind.i64 (x_2.snd + (↑(List.length x_2.fst) : Int) + (1 : Int)) ∧ inR IntKind.i64 (i + (1 : Int)) ∧ ∃ (i' : Int), qhI mkN szN x.snd x.fst i' ∧ List.length x.fst - Int.toNat i' < List.length x.fst - Int.toNat i ∧ (AV.sl false (0 : Nat) (4 : Nat) Nd (ndA false) x.fst = AV.sl false (0 : Nat) (4 : Nat) Nd (ndA false) x.fst ∧ x_2.snd + (↑(List.length x_2.fst) : Int) + (1 : Int) = x.snd + gTot szN (List.take (Int.toNat i') x.fst) ∧ i + (1 : Int) = i' ∧ True) ∧ True))))) (∃ (y : Unit), True ∧ x.snd + gTot szN (List.take (Int.toNat i) x.fst) = x.snd + gTot szN x.fst ∧ True)) := by kernel_rfl
theorem heldNds_ok  : Contract G Tryz.prog 17 s_heldNds :=
  vcFun_ok (Γ := Γof [(60, 0, s_heldInts), (59, 0, s_markText)]) (E := Eof []) (ov := false) (L := fun x => Lof ([(2,lHdNs x)])) Tryz.func17 rfl (by decide) (Γof_ok (l := [(60, 0, s_heldInts), (59, 0, s_markText)]) ⟨heldInts_ok, markText_ok, trivial⟩) fun (x : List Nd × Int) (hx : (qgB szN x.1 ∧ x.1 = gMk mkN szN x.2 x.1) ∧ 0 ≤ x.2 ∧ x.2 ≤ 2 ^ 50) => (heldNds_vc  x).mpr (by
  obtain ⟨⟨h1, h0⟩, h2, h3⟩ := hx
  (repeat' first | with_reducible rfl | exact True.intro | refine inR_i64 ?_ ?_ | with_reducible refine And.intro ?_ ?_ | with_reducible refine bcase_dec (fun _ => ?_) (fun _ => ?_) | with_reducible refine bcase_bne (fun _ => ?_) (fun _ => ?_) | with_reducible refine bcase_beq (fun _ => ?_) (fun _ => ?_) | with_reducible refine bcase_not (fun _ => ?_) (fun _ => ?_) | refine bcase_intro (fun _ => ?_) (fun _ => ?_) | refine sl_eq ?_ | refine ex_flip () ?_ ?_ | (apply ex_flip6 <;> try dsimp only) | (apply ex_flip5 <;> try dsimp only) | (apply ex_flip4 <;> try dsimp only) | (apply ex_flip3 <;> try dsimp only) | (apply ex_flip2 <;> try dsimp only) | apply ex_flip | (refine Prod.forall.2 ?_; intro _; try dsimp only) | (intro _; try dsimp only))
  all_goals (repeat (rename x.1[Int.toNat _]? = some _ => hq; revert hq; rename x.1[Int.toNat _]? = some _ => hr; intro hq; rw [hr] at hq; cases hq))
  all_goals try (have hq1 := hN_at (show qhI _ _ _ _ _ by assumption) (by assumption))
  all_goals first
    | rfl
    | exact ⟨h0, h1, by omega, by omega⟩
    | (simp [gTot]; done)
    | exact (show qhI _ _ _ _ _ by assumption).2.2.1
    | assumption
    | exact qhI_end (by assumption) (by assumption)
    | exact qhI_next (by assumption) (by assumption)
    | exact hq1.2.2.1
    | (exfalso; exact (show _ ≠ _ by assumption) hq1.1)
    | (exfalso; exact (show _ ≠ _ by assumption) hq1.2.1)
    | (exfalso; exact (show _ ≠ _ by assumption) hq1.2.2.2.1)
    | (exfalso; simp [hq1.2.1, hq1.2.2.2.1] at *; done)
    | (rw [qhI_step (by assumption) (by assumption), hq1.2.2.2.2]; omega)
    | (have hi := (show qhI _ _ _ _ _ by assumption); have ht := qgI_tot hi.2; have := hi.2.2.1; have := hi.2.2.2; have := h1.1; (try simp only [i64max]); omega)
    | (have hi := (show qhI _ _ _ _ _ by assumption); have ht := qgI_tot hi.2; have := hi.2.2.1; have := hi.2.2.2; have hg := qhI_sz hi (by assumption); have hg2 := hq1.2.2.2.2; have := h1.1; (try simp only [i64max]); omega)
    | skip)

end Go.My
end
section
/- The law of Spared. -/
set_option linter.unusedVariables false
set_option linter.unusedSimpArgs false
namespace Go.My
open Go.Eng Go.Proofs
variable {G : GInv}

theorem spared_resB {ns : List Nd} (hb : resB ns) : resB (sparedL ns) := by
  unfold sparedL
  split
  · exact putN_resB rSp_ok (fun k x h => by cases h) (by assumption) hb (by unfold bigN; omega)
  · exact hb
def s_lawSpared  : Sig := { X := List Nd, args := fun x => [nds x], pre := fun x => smallNds x, Y := Unit, post := fun x y => True, res := fun x y => .bool true, outs := fun x y => [.top], keep := false }
theorem lawSpared_vc (x : List Nd) : vcFun Go.Proofs.Tryz.prog (Γof [(11, 0, s_szNds), (13, 0, s_toNds), (12, 0, s_sSpared), (14, 0, s_iSpared), (15, 0, s_eqNds), (16, 0, s_markNds), (17, 0, s_heldNds)]) (Eof []) false (Lof ([])) Go.Proofs.Tryz.f3.ntmps Go.Proofs.Tryz.f3.results.toList (Go.Proofs.Tryz.f3.body.getD .skip) s_lawSpared x = ((∀ (y : Unit), True → True ∧ True ∧ True) ∧ ∃ (x_1 : List Nd × Int), ((-1 : Int) ≤ x_1.snd ∧ x_1.snd ≤ (2 : Int) ^ (50 : Nat) ∧ smallNds x_1.fst) ∧ AV.sl false (0 : Nat) (4 : Nat) Nd (ndA false) x = AV.sl false (0 : Nat) (4 : Nat) Nd (ndA false) x_1.fst ∧ (1048576 : Int) = x_1.snd ∧ ∀ (y : Unit), True → bcase (decide (szNds x_1.fst x_1.snd < (0 : Int))) (∃ (y : Unit), True ∧ true = true ∧ True) (∃ (x_2 : List Nd), (List.length x_2 ≤ (1073741824 : Nat) ∧ ∀ (e : Nd), e ∈ x_2 → List.length e.kids ≤ (1073741824 : Nat)) ∧ AV.sl false (0 : Nat) (4 : Nat) Nd (ndA false) x = AV.sl false (0 : Nat) (4 : Nat) Nd (ndA false) x_2 ∧ ∀ (y : Unit), True → ∃ (x_3 : List Nd), (okNds x_3 ∧ kidsB x_3) ∧ AV.sl false (0 : Nat) (4 : Nat) Nd (fun (x : Nd) => fzL (ndA true x)) x_2 = AV.sl false (0 : Nat) (4 : Nat) Nd (ndA false) x_3 ∧ ∀ (y : Unit), True → ∃ (x_4 : List Nd), (List.length x_4 ≤ (1073741824 : Nat) ∧ ∀ (e : Nd), e ∈ x_4 → List.length e.kids ≤ (1073741824 : Nat)) ∧ AV.sl false (0 : Nat) (4 : Nat) Nd (ndA false) x = AV.sl false (0 : Nat) (4 : Nat) Nd (ndA false) x_4 ∧ ∀ (y : Unit), True → ∃ (x_5 : List Nd), (okNds x_5 ∧ kidsB x_5) ∧ AV.sl false (0 : Nat) (4 : Nat) Nd (fun (x : Nd) => fzL (ndA true x)) x_4 = AV.sl false (0 : Nat) (4 : Nat) Nd (ndA false) x_5 ∧ ∀ (y : Unit), True → ∃ (x_6 : List Nd × List Nd), (smallNds x_6.fst ∧ smallNds x_6.snd) ∧ AV.sl false (0 : Nat) (4 : Nat) Nd (fun (x : Nd) => fzL (ndA true x)) (sparedL x_5) = AV.sl false (0 : Nat) (4 : Nat) Nd (ndA false) x_6.fst ∧ AV.sl false (0 : Nat) (4 : Nat) Nd (fun (x : Nd) => fzL (ndA true x)) (sparedL x_3) = AV.sl false (0 : Nat) (4 : Nat) Nd (ndA false) x_6.snd ∧ ∀ (y : Unit), True → bcase (!beqNds x_6.fst x_6.snd) (∃ (y : Unit), True ∧ false = true ∧ True) (∃ (x_7 : List Nd), (List.length x_7 ≤ (1073741824 : Nat) ∧ ∀ (e : Nd), e ∈ x_7 → List.length e.kids ≤ (1073741824 : Nat)) ∧ AV.sl false (0 : Nat) (4 : Nat) Nd (ndA false) x = AV.sl false (0 : Nat) (4 : Nat) Nd (ndA false) x_7 ∧ ∀ (y : Unit), True → ∃ (x_8 : List Nd × List Nd), (smallNds x_8.fst ∧ smallNds x_8.snd) ∧ AV.sl false (0 : Nat) (4 : Nat) Nd (fun (x : Nd) => fzL (ndA true x)) x_4 = AV.sl false (0 : Nat) (4 : Nat) Nd (ndA false) x_8.fst ∧ AV.sl false (0 : Nat) (4 : Nat) Nd (fun (x : Nd) => fzL (ndA true x)) x_7 = AV.sl false (0 : Nat) (4 : Nat) Nd (ndA false) x_8.snd ∧ ∀ (y : Unit), True → bcase (!beqNds x_8.fst x_8.snd) (∃ (y : Unit), True ∧ false = true ∧ True) (∃ (x_9 : List Nd × Int), (qgB szN x_9.fst ∧ (0 : Int) ≤ x_9.snd ∧ x_9.snd ≤ (2 : Int) ^ (50 : Nat)) ∧ AV.sl true (0 : Nat) (4 : Nat) Nd (ndA true) x_4 = AV.sl true (0 : Nat) (4 : Nat) Nd (ndA true) x_9.fst ∧ (1 : Int) = x_9.snd ∧ ∀ (y : Unit), True → bcase (decide (x_9.snd + gTot szN x_9.fst < (0 : Int))) (∃ (y : Unit), True ∧ false = true ∧ True) (∃ (x_10 : List Nd × List Nd), (smallNds x_10.fst ∧ smallNds x_10.snd) ∧ AV.sl false (0 : Nat) (4 : Nat) Nd (fun (x : Nd) => fzL (ndA true x)) (sparedL x_5) = AV.sl false (0 : Nat) (4 : Nat) Nd (ndA false) x_10.fst ∧ AV.sl false (0 : Nat) (4 : Nat) Nd (fun (x : Nd) => fzL (ndA true x)) (sparedL x_3) = AV.sl false (0 : Nat) (4 : Nat) Nd (ndA false) x_10.snd ∧ ∀ (y : Unit), True → bcase (!beqNds x_10.fst x_10.snd) (∃ (y : Unit), True ∧ false = true ∧ True) (∃ (x_11 : List Nd × Int), (qgB szN x_11.fst ∧ (0 : Int) ≤ x_11.snd ∧ x_11.snd ≤ (2 : Int) ^ (50 : Nat)) ∧ AV.sl true (0 : Nat) (4 : Nat) Nd (ndA true) (sparedL x_5) = AV.sl true (0 : Nat) (4 : Nat) Nd (ndA true) x_11.fst ∧ (1 : Int) = x_11.snd ∧ ∀ (y : Unit), True → ∃ (x_12 : List Nd × Int), ((qgB szN x_12.fst ∧ x_12.fst = gMk mkN szN x_12.snd x_12.fst) ∧ (0 : Int) ≤ x_12.snd ∧ x_12.snd ≤ (2 : Int) ^ (50 : Nat)) ∧ AV.sl false (0 : Nat) (4 : Nat) Nd (fun (x : Nd) => fzL (ndA true x)) (gMk mkN szN x_11.snd x_11.fst) = AV.sl false (0 : Nat) (4 : Nat) Nd (ndA false) x_12.fst ∧ (1 : Int) = x_12.snd ∧ ∀ (y : Unit), True → bcase (decide (x_12.snd + gTot szN x_12.fst < (0 : Int))) (∃ (y : Unit), True ∧ false = true ∧ True) (bcase (x_12.snd + gTot szN x_12.fst != x_11.snd + gTot szN x_11.fst) (∃ (y : Unit), True ∧ false = true ∧ True) (∃ (x_13 : List Nd), (List.length x_13 ≤ (1073741824 : Nat) ∧ ∀ (e : Nd), e ∈ x_13 → List.length e.kids ≤ (1073741824 : Nat)) ∧ AV.sl false (0 : Nat) (4 : Nat) Nd (ndA false) x = AV.sl false (0 : Nat) (4 : Nat) Nd (ndA false) x_13 ∧ ∀ (y : Unit), True → ∃ (x : List Nd), (okNds x ∧ kidsB x) ∧ AV.sl false (0 : Nat) (4 : Nat) Nd (fun (x : Nd) => fzL (ndA true x)) x_13 = AV.sl false (0 : Nat) (4 : Nat) Nd (ndA false) x ∧ ∀ (y : Unit), True → ∃ (x_14 : List Nd × List Nd), (smallNds x_14.fst ∧ smallNds x_14.snd) ∧ AV.sl false (0 : Nat) (4 : Nat) Nd (fun (x : Nd) => fzL (ndA true x)) (sparedL x) = AV.sl false (0 : Nat) (4 : Nat) Nd (ndA false) x_14.fst ∧ AV.sl false (0 : Nat) (4 : Nat) Nd (fun (x : Nd) => fzL (ndA true x)) (sparedL x_3) = AV.sl false (0 : Nat) (4 : Nat) Nd (ndA false) x_14.snd ∧ ∀ (y : Unit), True → bcase (!beqNds x_14.fst x_14.snd) (∃ (y : Unit), True ∧ false = true ∧ True) (∃ (x : List Nd × Int), ((qgB szN x.fst ∧ x.fst = gMk mkN szN x.snd x.fst) ∧ (0 : Int) ≤ x.snd ∧ x.snd ≤ (2 : Int) ^ (50 : Nat)) ∧ AV.sl false (0 : Nat) (4 : Nat) Nd (fun (x : Nd) => fzL (ndA true x)) (gMk mkN szN x_11.snd x_11.fst) = AV.sl false (0 : Nat) (4 : Nat) Nd (ndA false) x.fst ∧ (1 : Int) = x.snd ∧ ∀ (y : Unit), True → bcase (decide (x.snd + gTot szN x.fst < (0 : Int))) (∃ (y : Unit), True ∧ false = true ∧ True) (bcase (x.snd + gTot szN x.fst != x_11.snd + gTot szN x_11.fst) (∃ (y : Unit), True ∧ false = true ∧ True) (∃ (y : Unit), True ∧ true = true ∧ True))))))))))) := by kernel_rfl
set_option maxHeartbeats 4000000 in
theorem lawSpared_ok  : Contract G Tryz.prog 3 s_lawSpared :=
  vcFun_ok (Γ := Γof [(11, 0, s_szNds), (13, 0, s_toNds), (12, 0, s_sSpared), (14, 0, s_iSpared), (15, 0, s_eqNds), (16, 0, s_markNds), (17, 0, s_heldNds)]) (E := Eof []) (ov := false) (L := fun x => Lof ([])) Tryz.func3 rfl (by decide) (Γof_ok (l := [(11, 0, s_szNds), (13, 0, s_toNds), (12, 0, s_sSpared), (14, 0, s_iSpared), (15, 0, s_eqNds), (16, 0, s_markNds), (17, 0, s_heldNds)]) ⟨szNds_ok, toNds_ok, sSpared_ok, iSpared_ok, eqNds_ok, markNds_ok, heldNds_ok, trivial⟩) fun (x : List Nd) (hx : smallNds x) => (lawSpared_vc  x).mpr (by
  have h1 : smallNds x := hx
  simp only [fz_nds]
  (repeat' first | with_reducible rfl | exact True.intro | refine inR_i64 ?_ ?_ | with_reducible refine And.intro ?_ ?_ | with_reducible refine bcase_dec (fun _ => ?_) (fun _ => ?_) | with_reducible refine bcase_bne (fun _ => ?_) (fun _ => ?_) | with_reducible refine bcase_beq (fun _ => ?_) (fun _ => ?_) | with_reducible refine bcase_not (fun _ => ?_) (fun _ => ?_) | refine bcase_intro (fun _ => ?_) (fun _ => ?_) | refine sl_eq ?_ | refine ex_flip () ?_ ?_ | (apply ex_flip6 <;> try dsimp only) | (apply ex_flip5 <;> try dsimp only) | (apply ex_flip4 <;> try dsimp only) | (apply ex_flip3 <;> try dsimp only) | (apply ex_flip2 <;> try dsimp only) | apply ex_flip | (refine Prod.forall.2 ?_; intro _; try dsimp only) | (intro _; try dsimp only))
  all_goals try (have hr := resB_of (show ¬ szNds x 1048576 < 0 by assumption); have hr2 := spared_resB hr; have hn1 := gTot_nn szN x; have hn2 := gTot_nn szN (sparedL x))
  all_goals try rw [mk_tot] at *
  all_goals first
    | exact h1
    | omega
    | contradiction
    | exact gB6 (by assumption)
    | exact resB_small hr
    | exact resB_small hr2
    | exact resB_ok hr
    | exact resB_kids hr
    | exact resB_g hr
    | exact resB_g hr2
    | exact gB_mk szN_mk (resB_g hr2)
    | exact mk_idem _ _
    | exact gB3 (by assumption)
    | (exact fun e he => gB4 (by assumption) he)
    | (have := gB4 (by assumption) (by assumption); omega)
    | (simp only [ne_eq, not_true_eq_false] at *; done)
    | (exfalso; simp [beqNds_self] at *; done)
    | skip)

end Go.My
end
section
/- The laws of Folded and FoldsIn. -/
set_option linter.unusedVariables false
set_option linter.unusedSimpArgs false
namespace Go.My
open Go.Eng Go.Proofs
variable {G : GInv}

def s_lawFolded  : Sig := { X := List Nd, args := fun x => [nds x], pre := fun x => smallNds x, Y := Unit, post := fun x y => True, res := fun x y => .bool true, outs := fun x y => [.top], keep := false }
theorem lawFolded_vc (x : List Nd) : vcFun Go.Proofs.Tryz.prog (Γof [(11, 0, s_szNds), (13, 0, s_toNds), (32, 0, s_sFolded), (33, 0, s_iFolded), (15, 0, s_eqNds), (16, 0, s_markNds), (17, 0, s_heldNds)]) (Eof []) false (Lof ([])) Go.Proofs.Tryz.f8.ntmps Go.Proofs.Tryz.f8.results.toList (Go.Proofs.Tryz.f8.body.getD .skip) s_lawFolded x = ((∀ (y : Unit), True → True ∧ True ∧ True) ∧ ∃ (x_1 : List Nd × Int), ((-1 : Int) ≤ x_1.snd ∧ x_1.snd ≤ (2 : Int) ^ (50 : Nat) ∧ smallNds x_1.fst) ∧ AV.sl false (0 : Nat) (4 : Nat) Nd (ndA false) x = AV.sl false (0 : Nat) (4 : Nat) Nd (ndA false) x_1.fst ∧ (1048576 : Int) = x_1.snd ∧ ∀ (y : Unit), True → bcase (decide (szNds x_1.fst x_1.snd < (0 : Int))) (∃ (y : Unit), True ∧ true = true ∧ True) (∃ (x_2 : List Nd), (List.length x_2 ≤ (1073741824 : Nat) ∧ ∀ (e : Nd), e ∈ x_2 → List.length e.kids ≤ (1073741824 : Nat)) ∧ AV.sl false (0 : Nat) (4 : Nat) Nd (ndA false) x = AV.sl false (0 : Nat) (4 : Nat) Nd (ndA false) x_2 ∧ ∀ (y : Unit), True → ∃ (x_3 : List Nd), (okNds x_3 ∧ kidsB x_3) ∧ AV.sl false (0 : Nat) (4 : Nat) Nd (fun (x : Nd) => fzL (ndA true x)) x_2 = AV.sl false (0 : Nat) (4 : Nat) Nd (ndA false) x_3 ∧ ∀ (y : Unit), True → ∃ (x_4 : List Nd), (List.length x_4 ≤ (1073741824 : Nat) ∧ ∀ (e : Nd), e ∈ x_4 → List.length e.kids ≤ (1073741824 : Nat)) ∧ AV.sl false (0 : Nat) (4 : Nat) Nd (ndA false) x = AV.sl false (0 : Nat) (4 : Nat) Nd (ndA false) x_4 ∧ ∀ (y : Unit), True → ∃ (x_5 : List Nd), (okNds x_5 ∧ kidsB x_5) ∧ AV.sl false (0 : Nat) (4 : Nat) Nd (fun (x : Nd) => fzL (ndA true x)) x_4 = AV.sl false (0 : Nat) (4 : Nat) Nd (ndA false) x_5 ∧ ∀ (y : Unit), True → ∃ (x_6 : List Nd × List Nd), (smallNds x_6.fst ∧ smallNds x_6.snd) ∧ AV.sl false (0 : Nat) (4 : Nat) Nd (fun (x : Nd) => fzL (ndA true x)) (foldedL x_5) = AV.sl false (0 : Nat) (4 : Nat) Nd (ndA false) x_6.fst ∧ AV.sl false (0 : Nat) (4 : Nat) Nd (fun (x : Nd) => fzL (ndA true x)) (foldedL x_3) = AV.sl false (0 : Nat) (4 : Nat) Nd (ndA false) x_6.snd ∧ ∀ (y : Unit), True → bcase (!beqNds x_6.fst x_6.snd) (∃ (y : Unit), True ∧ false = true ∧ True) (∃ (x_7 : List Nd), (List.length x_7 ≤ (1073741824 : Nat) ∧ ∀ (e : Nd), e ∈ x_7 → List.length e.kids ≤ (1073741824 : Nat)) ∧ AV.sl false (0 : Nat) (4 : Nat) Nd (ndA false) x = AV.sl false (0 : Nat) (4 : Nat) Nd (ndA false) x_7 ∧ ∀ (y : Unit), True → ∃ (x_8 : List Nd × List Nd), (smallNds x_8.fst ∧ smallNds x_8.snd) ∧ AV.sl false (0 : Nat) (4 : Nat) Nd (fun (x : Nd) => fzL (ndA true x)) x_4 = AV.sl false (0 : Nat) (4 : Nat) Nd (ndA false) x_8.fst ∧ AV.sl false (0 : Nat) (4 : Nat) Nd (fun (x : Nd) => fzL (ndA true x)) x_7 = AV.sl false (0 : Nat) (4 : Nat) Nd (ndA false) x_8.snd ∧ ∀ (y : Unit), True → bcase (!beqNds x_8.fst x_8.snd) (∃ (y : Unit), True ∧ false = true ∧ True) (∃ (x_9 : List Nd × Int), (qgB szN x_9.fst ∧ (0 : Int) ≤ x_9.snd ∧ x_9.snd ≤ (2 : Int) ^ (50 : Nat)) ∧ AV.sl true (0 : Nat) (4 : Nat) Nd (ndA true) x_4 = AV.sl true (0 : Nat) (4 : Nat) Nd (ndA true) x_9.fst ∧ (1 : Int) = x_9.snd ∧ ∀ (y : Unit), True → bcase (decide (x_9.snd + gTot szN x_9.fst < (0 : Int))) (∃ (y : Unit), True ∧ false = true ∧ True) (∃ (x_10 : List Nd × List Nd), (smallNds x_10.fst ∧ smallNds x_10.snd) ∧ AV.sl false (0 : Nat) (4 : Nat) Nd (fun (x : Nd) => fzL (ndA true x)) (foldedL x_5) = AV.sl false (0 : Nat) (4 : Nat) Nd (ndA false) x_10.fst ∧ AV.sl false (0 : Nat) (4 : Nat) Nd (fun (x : Nd) => fzL (ndA true x)) (foldedL x_3) = AV.sl false (0 : Nat) (4 : Nat) Nd (ndA false) x_10.snd ∧ ∀ (y : Unit), True → bcase (!beqNds x_10.fst x_10.snd) (∃ (y : Unit), True ∧ false = true ∧ True) (∃ (x_11 : List Nd × Int), (qgB szN x_11.fst ∧ (0 : Int) ≤ x_11.snd ∧ x_11.snd ≤ (2 : Int) ^ (50 : Nat)) ∧ AV.sl true (0 : Nat) (4 : Nat) Nd (ndA true) (foldedL x_5) = AV.sl true (0 : Nat) (4 : Nat) Nd (ndA true) x_11.fst ∧ (1 : Int) = x_11.snd ∧ ∀ (y : Unit), True → ∃ (x_12 : List Nd × Int), ((qgB szN x_12.fst ∧ x_12.fst = gMk mkN szN x_12.snd x_12.fst) ∧ (0 : Int) ≤ x_12.snd ∧ x_12.snd ≤ (2 : Int) ^ (50 : Nat)) ∧ AV.sl false (0 : Nat) (4 : Nat) Nd (fun (x : Nd) => fzL (ndA true x)) (gMk mkN szN x_11.snd x_11.fst) = AV.sl false (0 : Nat) (4 : Nat) Nd (ndA false) x_12.fst ∧ (1 : Int) = x_12.snd ∧ ∀ (y : Unit), True → bcase (decide (x_12.snd + gTot szN x_12.fst < (0 : Int))) (∃ (y : Unit), True ∧ false = true ∧ True) (bcase (x_12.snd + gTot szN x_12.fst != x_11.snd + gTot szN x_11.fst) (∃ (y : Unit), True ∧ false = true ∧ True) (∃ (x_13 : List Nd), (List.length x_13 ≤ (1073741824 : Nat) ∧ ∀ (e : Nd), e ∈ x_13 → List.length e.kids ≤ (1073741824 : Nat)) ∧ AV.sl false (0 : Nat) (4 : Nat) Nd (ndA false) x = AV.sl false (0 : Nat) (4 : Nat) Nd (ndA false) x_13 ∧ ∀ (y : Unit), True → ∃ (x : List Nd), (okNds x ∧ kidsB x) ∧ AV.sl false (0 : Nat) (4 : Nat) Nd (fun (x : Nd) => fzL (ndA true x)) x_13 = AV.sl false (0 : Nat) (4 : Nat) Nd (ndA false) x ∧ ∀ (y : Unit), True → ∃ (x_14 : List Nd × List Nd), (smallNds x_14.fst ∧ smallNds x_14.snd) ∧ AV.sl false (0 : Nat) (4 : Nat) Nd (fun (x : Nd) => fzL (ndA true x)) (foldedL x) = AV.sl false (0 : Nat) (4 : Nat) Nd (ndA false) x_14.fst ∧ AV.sl false (0 : Nat) (4 : Nat) Nd (fun (x : Nd) => fzL (ndA true x)) (foldedL x_3) = AV.sl false (0 : Nat) (4 : Nat) Nd (ndA false) x_14.snd ∧ ∀ (y : Unit), True → bcase (!beqNds x_14.fst x_14.snd) (∃ (y : Unit), True ∧ false = true ∧ True) (∃ (x : List Nd × Int), ((qgB szN x.fst ∧ x.fst = gMk mkN szN x.snd x.fst) ∧ (0 : Int) ≤ x.snd ∧ x.snd ≤ (2 : Int) ^ (50 : Nat)) ∧ AV.sl false (0 : Nat) (4 : Nat) Nd (fun (x : Nd) => fzL (ndA true x)) (gMk mkN szN x_11.snd x_11.fst) = AV.sl false (0 : Nat) (4 : Nat) Nd (ndA false) x.fst ∧ (1 : Int) = x.snd ∧ ∀ (y : Unit), True → bcase (decide (x.snd + gTot szN x.fst < (0 : Int))) (∃ (y : Unit), True ∧ false = true ∧ True) (bcase (x.snd + gTot szN x.fst != x_11.snd + gTot szN x_11.fst) (∃ (y : Unit), True ∧ false = true ∧ True) (∃ (y : Unit), True ∧ true = true ∧ True))))))))))) := by kernel_rfl
set_option maxHeartbeats 4000000 in
theorem lawFolded_ok  (hT : holdsTab G) : Contract G Tryz.prog 8 s_lawFolded :=
  vcFun_ok (Γ := Γof [(11, 0, s_szNds), (13, 0, s_toNds), (32, 0, s_sFolded), (33, 0, s_iFolded), (15, 0, s_eqNds), (16, 0, s_markNds), (17, 0, s_heldNds)]) (E := Eof []) (ov := false) (L := fun x => Lof ([])) Tryz.func8 rfl (by decide) (Γof_ok (l := [(11, 0, s_szNds), (13, 0, s_toNds), (32, 0, s_sFolded), (33, 0, s_iFolded), (15, 0, s_eqNds), (16, 0, s_markNds), (17, 0, s_heldNds)]) ⟨szNds_ok, toNds_ok, sFolded_ok, (iFolded_ok hT), eqNds_ok, markNds_ok, heldNds_ok, trivial⟩) fun (x : List Nd) (hx : smallNds x) => (lawFolded_vc  x).mpr (by
  have h1 : smallNds x := hx
  simp only [fz_nds]
  (repeat' first | with_reducible rfl | exact True.intro | refine inR_i64 ?_ ?_ | with_reducible refine And.intro ?_ ?_ | with_reducible refine bcase_dec (fun _ => ?_) (fun _ => ?_) | with_reducible refine bcase_bne (fun _ => ?_) (fun _ => ?_) | with_reducible refine bcase_beq (fun _ => ?_) (fun _ => ?_) | with_reducible refine bcase_not (fun _ => ?_) (fun _ => ?_) | refine bcase_intro (fun _ => ?_) (fun _ => ?_) | refine sl_eq ?_ | refine ex_flip () ?_ ?_ | (apply ex_flip6 <;> try dsimp only) | (apply ex_flip5 <;> try dsimp only) | (apply ex_flip4 <;> try dsimp only) | (apply ex_flip3 <;> try dsimp only) | (apply ex_flip2 <;> try dsimp only) | apply ex_flip | (refine Prod.forall.2 ?_; intro _; try dsimp only) | (intro _; try dsimp only))
  all_goals try (have hr := resB_of (show ¬ szNds x 1048576 < 0 by assumption); have hr2 := folded_resB hr; have hn1 := gTot_nn szN x; have hn2 := gTot_nn szN (foldedL x))
  all_goals try rw [mk_tot] at *
  all_goals first
    | exact h1
    | omega
    | contradiction
    | exact gB6 (by assumption)
    | exact resB_small hr
    | exact resB_small hr2
    | exact resB_ok hr
    | exact resB_kids hr
    | exact resB_g hr
    | exact resB_g hr2
    | exact gB_mk szN_mk (resB_g hr2)
    | exact mk_idem _ _
    | exact gB3 (by assumption)
    | (exact fun e he => gB4 (by assumption) he)
    | (have := gB4 (by assumption) (by assumption); omega)
    | (simp only [ne_eq, not_true_eq_false] at *; done)
    | (exfalso; simp [beqNds_self] at *; done)
    | skip)

def s_lawFoldsIn  : Sig := { X := List Nd, args := fun x => [nds x], pre := fun x => smallNds x, Y := Unit, post := fun x y => True, res := fun x y => .bool true, outs := fun x y => [.top], keep := false }
theorem lawFoldsIn_vc (x : List Nd) : vcFun Go.Proofs.Tryz.prog (Γof [(11, 0, s_szNds), (13, 0, s_toNds), (28, 0, s_sFoldsIn), (29, 0, s_iFoldsIn), (15, 0, s_eqNds)]) (Eof []) false (Lof ([])) Go.Proofs.Tryz.f6.ntmps Go.Proofs.Tryz.f6.results.toList (Go.Proofs.Tryz.f6.body.getD .skip) s_lawFoldsIn x = ((∀ (y : Unit), True → True ∧ True ∧ True) ∧ ∃ (x_1 : List Nd × Int), ((-1 : Int) ≤ x_1.snd ∧ x_1.snd ≤ (2 : Int) ^ (50 : Nat) ∧ smallNds x_1.fst) ∧ AV.sl false (0 : Nat) (4 : Nat) Nd (ndA false) x = AV.sl false (0 : Nat) (4 : Nat) Nd (ndA false) x_1.fst ∧ (1048576 : Int) = x_1.snd ∧ ∀ (y : Unit), True → bcase (decide (szNds x_1.fst x_1.snd < (0 : Int))) (∃ (y : Unit), True ∧ true = true ∧ True) (∃ (x_2 : List Nd), (List.length x_2 ≤ (1073741824 : Nat) ∧ ∀ (e : Nd), e ∈ x_2 → List.length e.kids ≤ (1073741824 : Nat)) ∧ AV.sl false (0 : Nat) (4 : Nat) Nd (ndA false) x = AV.sl false (0 : Nat) (4 : Nat) Nd (ndA false) x_2 ∧ ∀ (y : Unit), True → ∃ (x_3 : List Nd), (okNds x_3 ∧ kidsB x_3) ∧ AV.sl false (0 : Nat) (4 : Nat) Nd (fun (x : Nd) => fzL (ndA true x)) x_2 = AV.sl false (0 : Nat) (4 : Nat) Nd (ndA false) x_3 ∧ ∀ (y : Unit), True → ∃ (x_4 : List Nd), (List.length x_4 ≤ (1073741824 : Nat) ∧ ∀ (e : Nd), e ∈ x_4 → List.length e.kids ≤ (1073741824 : Nat)) ∧ AV.sl false (0 : Nat) (4 : Nat) Nd (ndA false) x = AV.sl false (0 : Nat) (4 : Nat) Nd (ndA false) x_4 ∧ ∀ (y : Unit), True → ∃ (x_5 : List Nd), (okNds x_5 ∧ kidsB x_5) ∧ AV.sl false (0 : Nat) (4 : Nat) Nd (fun (x : Nd) => fzL (ndA true x)) x_4 = AV.sl false (0 : Nat) (4 : Nat) Nd (ndA false) x_5 ∧ ∀ (y : Unit), True → bcase (foldsL x_5 != foldsL x_3) (∃ (y : Unit), True ∧ false = true ∧ True) (∃ (x_6 : List Nd), (List.length x_6 ≤ (1073741824 : Nat) ∧ ∀ (e : Nd), e ∈ x_6 → List.length e.kids ≤ (1073741824 : Nat)) ∧ AV.sl false (0 : Nat) (4 : Nat) Nd (ndA false) x = AV.sl false (0 : Nat) (4 : Nat) Nd (ndA false) x_6 ∧ ∀ (y : Unit), True → ∃ (x : List Nd × List Nd), (smallNds x.fst ∧ smallNds x.snd) ∧ AV.sl false (0 : Nat) (4 : Nat) Nd (fun (x : Nd) => fzL (ndA true x)) x_4 = AV.sl false (0 : Nat) (4 : Nat) Nd (ndA false) x.fst ∧ AV.sl false (0 : Nat) (4 : Nat) Nd (fun (x : Nd) => fzL (ndA true x)) x_6 = AV.sl false (0 : Nat) (4 : Nat) Nd (ndA false) x.snd ∧ ∀ (y : Unit), True → bcase (!beqNds x.fst x.snd) (∃ (y : Unit), True ∧ false = true ∧ True) (∃ (y : Unit), True ∧ true = true ∧ True)))) := by kernel_rfl
set_option maxHeartbeats 4000000 in
theorem lawFoldsIn_ok  (hT : holdsTab G) : Contract G Tryz.prog 6 s_lawFoldsIn :=
  vcFun_ok (Γ := Γof [(11, 0, s_szNds), (13, 0, s_toNds), (28, 0, s_sFoldsIn), (29, 0, s_iFoldsIn), (15, 0, s_eqNds)]) (E := Eof []) (ov := false) (L := fun x => Lof ([])) Tryz.func6 rfl (by decide) (Γof_ok (l := [(11, 0, s_szNds), (13, 0, s_toNds), (28, 0, s_sFoldsIn), (29, 0, s_iFoldsIn), (15, 0, s_eqNds)]) ⟨szNds_ok, toNds_ok, sFoldsIn_ok, (iFoldsIn_ok hT), eqNds_ok, trivial⟩) fun (x : List Nd) (hx : smallNds x) => (lawFoldsIn_vc  x).mpr (by
  have h1 : smallNds x := hx
  simp only [fz_nds]
  (repeat' first | with_reducible rfl | exact True.intro | refine inR_i64 ?_ ?_ | with_reducible refine And.intro ?_ ?_ | with_reducible refine bcase_dec (fun _ => ?_) (fun _ => ?_) | with_reducible refine bcase_bne (fun _ => ?_) (fun _ => ?_) | with_reducible refine bcase_beq (fun _ => ?_) (fun _ => ?_) | with_reducible refine bcase_not (fun _ => ?_) (fun _ => ?_) | refine bcase_intro (fun _ => ?_) (fun _ => ?_) | refine sl_eq ?_ | refine ex_flip () ?_ ?_ | (apply ex_flip6 <;> try dsimp only) | (apply ex_flip5 <;> try dsimp only) | (apply ex_flip4 <;> try dsimp only) | (apply ex_flip3 <;> try dsimp only) | (apply ex_flip2 <;> try dsimp only) | apply ex_flip | (refine Prod.forall.2 ?_; intro _; try dsimp only) | (intro _; try dsimp only))
  all_goals try (have hr := resB_of (show ¬ szNds x 1048576 < 0 by assumption))
  all_goals first
    | exact h1
    | omega
    | contradiction
    | exact gB6 (by assumption)
    | exact resB_small hr
    | exact resB_ok hr
    | exact resB_kids hr
    | exact gB3 (by assumption)
    | (exact fun e he => gB4 (by assumption) he)
    | (have := gB4 (by assumption) (by assumption); omega)
    | (simp only [ne_eq, not_true_eq_false] at *; done)
    | (exfalso; simp [beqNds_self] at *; done)
    | skip)

end Go.My
end
section
/- From a function's contract to a row: a law that returns true. -/
set_option linter.unusedVariables false
set_option linter.unusedSimpArgs false
namespace Go.Eng
open Go.ChangeShapes Go.WideShapes Go.ChangeAt Go.RowKit

theorem after_below {Z Z' A' : FP} {w w' : World} (h : After Z w (fun _ => False) Z' w' A') : Below w.heap.size w w' :=
  ⟨h.os, h.tape, h.output, h.size, fun b hb => (h.old b hb (fun x => x)).1⟩

theorem trodAll_below {H : Type} {enc : TypeId × Value → H} {P : Program} (hl : laidOutB P = true) {W W' : World} (hb : Below W.heap.size W W') :
    ∀ (ts : List TypeId) (vs : List Value) (ds : List (DataW H)) (ps : List MemPlace), ts.all (fun t => P.readableRec t && decide (t < P.types.size)) = true →
    DataW.TrodAll enc P W 0 (fun _ => true) true ts vs ds ps → (∀ x ∈ ps, x.block < W.heap.size) → DataW.TrodAll enc P W' 0 (fun b => decide (b < W.heap.size)) true ts vs ds ps
  | [], [], [], ps, ht, h, hp => h
  | t :: ts, v :: vs, d :: ds, ps, ht, h, hp => by
    obtain ⟨p, q, h1, h2, rfl⟩ := h
    simp only [List.all_cons, Bool.and_eq_true, decide_eq_true_eq] at ht
    exact ⟨p, q, Below.trod hl ht.1.1 ht.1.2 h1 hb (fun x hx => hp x (List.mem_append_left _ hx)), trodAll_below hl hb ts vs ds q ht.2 h2 (fun x hx => hp x (List.mem_append_right _ hx)), rfl⟩
  | [], _ :: _, _, _, ht, h, hp => h.elim
  | [], [], _ :: _, _, ht, h, hp => h.elim
  | _ :: _, [], _, _, ht, h, hp => h.elim
  | _ :: _, _ :: _, [], _, ht, h, hp => h.elim

theorem law_post {H : Type} {enc : TypeId × Value → H} {P : Program} {f : Func} {s : ChangeSpec} {W W' : World} {args : Array Value} {ds gs : List (DataW H)} {before : List MemPlace} {tb : TypeId}
    (hl : laidOutB P = true) (ht : f.params.toList.all (fun t => P.readableRec t && decide (t < P.types.size)) = true) (hv : s.vars = [])
    (hs : s.fn H ds = { results := [.lit (.bool true)], args := ds }) (hr : f.resultTypes = #[tb]) (htb : P.underlying tb = some .bool)
    (hW : DataW.Whole enc P f.params.toList s.vars false W args.toList ds gs before) (hb : Below W.heap.size W W') : s.post enc P f false true false false W args (.bool true) W' := by
  have hW0 := hW
  obtain ⟨p, q, hA, hV, rfl, hfz, hnd⟩ := hW
  rw [hv] at hV
  obtain ⟨rfl, rfl⟩ := trodVars_none hV
  refine ⟨ds, [], p ++ [], [], p, [], hW0, ?_, ?_, ?_, hb.frame _, fun h => by cases h⟩
  · simp only [List.append_nil]
    rw [hs, hr]
    exact trodAll_mk1 (shut_bool htb _)
  · simp only [List.append_nil]
    rw [hs]
    exact trodAll_below hl hb _ _ _ _ ht hA (fun x hx => by simpa using hW0.lt x (by simpa using hx))
  · simp only [List.append_nil]
    rw [hs, hv]
    rfl

/- nothing is asked of the world -/
def noG : GInv := ⟨fun _ _ => True, fun _ _ _ _ _ _ => trivial⟩
/- a law's signature -/
def lawSig (X : Type) (args : X → List AV) (pre : X → Prop) (n : Nat) : Sig :=
  { X := X, args := args, pre := pre, Y := Unit, post := fun _ _ => True, res := fun _ _ => .bool true, outs := fun _ _ => List.replicate n .top, keep := false }

theorem law_calls {H : Type} {enc : TypeId × Value → H} {P : Program} {fi : FuncId} {f : Func} {s : ChangeSpec} {W : World} {args : Array Value} {ds gs : List (DataW H)} {before : List MemPlace} {tb : TypeId}
    {X : Type} {azs : X → List AV} {pre : X → Prop} {n : Nat} {G : GInv} (hc : Contract G P fi (lawSig X azs pre n)) (hG : G.p (Old W) W)
    (hl : laidOutB P = true) (ht : f.params.toList.all (fun t => P.readableRec t && decide (t < P.types.size)) = true) (hv : s.vars = [])
    (hs : s.fn H ds = { results := [.lit (.bool true)], args := ds }) (hr : f.resultTypes = #[tb]) (htb : P.underlying tb = some .bool)
    (hW : DataW.Whole enc P f.params.toList s.vars false W args.toList ds gs before)
    (ho : ∃ x, pre x ∧ rel0L (Old W) W (azs x) args.toList (fun _ => False)) :
    Calls P fi args W fun e W' => ∃ v, e = .returned v ∧ s.post enc P f false true false false W args v W' := by
  obtain ⟨x, hx, hrel⟩ := ho
  refine (hc.2 x hx (Old W) W args.toList _ hG hrel (fun b h => h.elim)).mono fun e W' h => ?_
  obtain ⟨y, v, Z', A', _, rfl, hr2, hafter⟩ := h
  simp only [rel0L] at hr2
  obtain ⟨v', us, A1, A2, e1, _, h1, _⟩ := hr2
  simp only [List.cons.injEq] at e1
  obtain ⟨rfl, _⟩ := e1
  have : v = .bool true := by
    have h1 : rel0 Z' W' (.bool true) v A1 := h1
    simp only [rel0] at h1; exact h1.1
  subst this
  exact ⟨_, rfl, law_post hl ht hv hs hr htb hW (after_below hafter)⟩
end Go.Eng
end
section
/- Arguments of a row opened into the engine's words. -/
set_option linter.unusedVariables false
set_option linter.unusedSimpArgs false
namespace Go.Eng
open Go.ChangeShapes Go.WideShapes Go.ChangeAt Go.RowKit

theorem open_one {H : Type} {enc : TypeId × Value → H} {P : Program} {t : TypeId} {α : Type} {f : α → AV} {good : α → Prop} (hO : Opens P t (fun x => [f x]) good) {W : World} {v : Value} (hc : isCell v)
    {d : DataW H} {ps : List MemPlace} (h : DataW.Trod enc P W 0 (fun _ => true) true t v d ps) : ∃ x, good x ∧ rel0 (Old W) W (f x) v (fun _ => False) := by
  obtain ⟨fuel, hf⟩ := h
  rw [cells_of_cell hc] at hf
  obtain ⟨x, hg, hr⟩ := hO enc W _ _ fuel _ _ hf
  exact ⟨x, hg, rel0L_one.1 hr⟩
theorem open_agg {H : Type} {enc : TypeId × Value → H} {P : Program} {t : TypeId} {α : Type} {f : α → List AV} {good : α → Prop} (hO : Opens P t f good) {W : World} {cs : Array Value}
    {d : DataW H} {ps : List MemPlace} (h : DataW.Trod enc P W 0 (fun _ => true) true t (.agg cs) d ps) : ∃ x, good x ∧ rel0 (Old W) W (.agg (f x)) (.agg cs) (fun _ => False) := by
  obtain ⟨fuel, hf⟩ := h
  obtain ⟨x, hg, hr⟩ := hO enc W _ _ fuel _ _ hf
  refine ⟨x, hg, ?_⟩
  simp only [rel0]
  exact ⟨_, rfl, hr⟩
theorem open_int1 {H : Type} {enc : TypeId × Value → H} {P : Program} {t : TypeId} {k : IntKind} (ht : P.underlying t = some (.int k)) {W : World} {r : Reach} {base : Nat} {v : Value} (hv : Value.okWide P W r base t v)
    {d : DataW H} {ps : List MemPlace} (h : DataW.Trod enc P W 0 (fun _ => true) true t v d ps) : ∃ n, inR k n ∧ rel0 (Old W) W (.int k n) v (fun _ => False) :=
  open_one (opens_int ht) (by obtain ⟨n, rfl⟩ := okWide_int ht hv; trivial) h
theorem open_str1 {H : Type} {enc : TypeId × Value → H} {P : Program} {t : TypeId} (ht : P.underlying t = some .string) {W : World} {r : Reach} {base : Nat} {v : Value} (hv : Value.okWide P W r base t v)
    {d : DataW H} {ps : List MemPlace} (h : DataW.Trod enc P W 0 (fun _ => true) true t v d ps) : ∃ s : List UInt8, s.length < 2 ^ 63 ∧ rel0 (Old W) W (.str s) v (fun _ => False) :=
  open_one (opens_str ht) (by obtain ⟨n, rfl⟩ := okWide_string ht hv; trivial) h
theorem open_sl1 {H : Type} {enc : TypeId × Value → H} {P : Program} {t e : TypeId} {α : Type} {f : α → AV} {good : α → Prop} (ht : P.underlying t = some (.slice e)) (hO : Opens P t (fun x => [f x]) good)
    {W : World} {r : Reach} {base : Nat} {v : Value} (hv : Value.okWide P W r base t v)
    {d : DataW H} {ps : List MemPlace} (h : DataW.Trod enc P W 0 (fun _ => true) true t v d ps) : ∃ x, good x ∧ rel0 (Old W) W (f x) v (fun _ => False) :=
  open_one hO (by obtain ⟨a, l, c, rfl⟩ := okWide_slice ht hv; trivial) h
theorem open_st1 {H : Type} {enc : TypeId × Value → H} {P : Program} {t : TypeId} {fs : Array Field} {α : Type} {f : α → List AV} {good : α → Prop} (ht : P.underlying t = some (.struct fs)) (hO : Opens P t f good)
    {W : World} {r : Reach} {base : Nat} {v : Value} (hv : Value.okWide P W r base t v)
    {d : DataW H} {ps : List MemPlace} (h : DataW.Trod enc P W 0 (fun _ => true) true t v d ps) : ∃ x, good x ∧ rel0 (Old W) W (.agg (f x)) v (fun _ => False) := by
  obtain ⟨cs, rfl, _⟩ := okWide_struct ht hv
  exact open_agg hO h
theorem rel0L_nil {Z : FP} {w : World} : rel0L Z w [] [] (fun _ => False) := ⟨rfl, emp_false⟩
/- structs of two and of four cells -/
theorem opens_st2 {P : Program} {t : TypeId} {f0 f1 : Field} {α β : Type} {a : α → AV} {b : β → AV} {ga : α → Prop} {gb : β → Prop} (ht : P.underlying t = some (.struct #[f0, f1])) (hn : P.cellsOf t = 2)
    (h0 : f0.offset = 0 ∧ P.cellsOf f0.type = 1) (h1 : f1.offset = 1 ∧ P.cellsOf f1.type = 1)
    (o0 : Opens P f0.type (fun x => [a x]) ga) (o1 : Opens P f1.type (fun x => [b x]) gb) : Opens P t (fun x : α × β => [a x.1, b x.2]) (fun x => ga x.1 ∧ gb x.2) := by
  intro H enc w spare held fuel cs y h
  obtain ⟨hl, n, hf⟩ := trod_struct_cells ht hn (fun i f hi => by
    match i, hi with
    | 0, hi => simp at hi; subst hi; exact h0
    | 1, hi => simp at hi; subst hi; exact h1
    | n + 2, hi => simp at hi) h
  match cs, hl with
  | [c0, c1], _ =>
    obtain ⟨z0, e0⟩ := hf 0 _ c0 rfl rfl
    obtain ⟨z1, e1⟩ := hf 1 _ c1 rfl rfl
    obtain ⟨x0, g0, r0⟩ := o0 enc w _ _ _ _ _ e0
    obtain ⟨x1, g1, r1⟩ := o1 enc w _ _ _ _ _ e1
    exact ⟨(x0, x1), ⟨g0, g1⟩, rel0L_cons (rel0L_one.1 r0) r1⟩
theorem opens_st4 {P : Program} {t : TypeId} {f0 f1 f2 f3 : Field} {α β γ δ : Type} {a : α → AV} {b : β → AV} {c : γ → AV} {d : δ → AV} {ga : α → Prop} {gb : β → Prop} {gc : γ → Prop} {gd : δ → Prop}
    (ht : P.underlying t = some (.struct #[f0, f1, f2, f3])) (hn : P.cellsOf t = 4)
    (h0 : f0.offset = 0 ∧ P.cellsOf f0.type = 1) (h1 : f1.offset = 1 ∧ P.cellsOf f1.type = 1) (h2 : f2.offset = 2 ∧ P.cellsOf f2.type = 1) (h3 : f3.offset = 3 ∧ P.cellsOf f3.type = 1)
    (o0 : Opens P f0.type (fun x => [a x]) ga) (o1 : Opens P f1.type (fun x => [b x]) gb) (o2 : Opens P f2.type (fun x => [c x]) gc) (o3 : Opens P f3.type (fun x => [d x]) gd) :
    Opens P t (fun x : α × β × γ × δ => [a x.1, b x.2.1, c x.2.2.1, d x.2.2.2]) (fun x => ga x.1 ∧ gb x.2.1 ∧ gc x.2.2.1 ∧ gd x.2.2.2) := by
  intro H enc w spare held fuel cs y h
  obtain ⟨hl, n, hf⟩ := trod_struct_cells ht hn (fun i f hi => by
    match i, hi with
    | 0, hi => simp at hi; subst hi; exact h0
    | 1, hi => simp at hi; subst hi; exact h1
    | 2, hi => simp at hi; subst hi; exact h2
    | 3, hi => simp at hi; subst hi; exact h3
    | n + 4, hi => simp at hi) h
  match cs, hl with
  | [c0, c1, c2, c3], _ =>
    obtain ⟨z0, e0⟩ := hf 0 _ c0 rfl rfl
    obtain ⟨z1, e1⟩ := hf 1 _ c1 rfl rfl
    obtain ⟨z2, e2⟩ := hf 2 _ c2 rfl rfl
    obtain ⟨z3, e3⟩ := hf 3 _ c3 rfl rfl
    obtain ⟨x0, g0, r0⟩ := o0 enc w _ _ _ _ _ e0
    obtain ⟨x1, g1, r1⟩ := o1 enc w _ _ _ _ _ e1
    obtain ⟨x2, g2, r2⟩ := o2 enc w _ _ _ _ _ e2
    obtain ⟨x3, g3, r3⟩ := o3 enc w _ _ _ _ _ e3
    exact ⟨(x0, x1, x2, x3), ⟨g0, g1, g2, g3⟩, rel0L_cons (rel0L_one.1 r0) (rel0L_cons (rel0L_one.1 r1) (rel0L_cons (rel0L_one.1 r2) r3))⟩
theorem opens_map {P : Program} {t : TypeId} {α β : Type} {f : α → List AV} {g : β → List AV} {p : α → Prop} {q : β → Prop} (m : α → β) (ho : Opens P t f p) (hf : ∀ x, f x = g (m x)) (hg : ∀ x, p x → q (m x)) : Opens P t g q := by
  intro H enc w spare held fuel cs y h
  obtain ⟨x, hx, hr⟩ := ho enc w _ _ fuel _ _ h
  exact ⟨m x, hg x hx, by rw [← hf]; exact hr⟩
end Go.Eng
end
section
/- The laws' arguments opened. -/
set_option linter.unusedVariables false
set_option maxRecDepth 100000
namespace Go.My
open Go.Eng Go.Proofs
variable {G : GInv}

theorem opens_ints : Opens Tryz.prog 39 (fun l : List Int => [ints l]) (fun l => l.length < 2 ^ 63 ∧ ∀ x ∈ l, inR .i64 x) :=
  opens_slice (e := 3) rfl (by kernel_rfl) (by decide) (opens_int rfl)
theorem opens_node : Opens Tryz.prog 62 (ndA false) smallNd :=
  opens_map (fun x : Int × List UInt8 × List Int × Bool => (⟨x.1, x.2.1, x.2.2.1, x.2.2.2⟩ : Nd)) (opens_st4 (t := 62) (P := Tryz.prog) (a := fun n => .int .i64 n) (b := .str) (c := ints) (d := .bool)
    (gd := fun _ => True) rfl (by kernel_rfl) ⟨by kernel_rfl, by kernel_rfl⟩ ⟨by kernel_rfl, by kernel_rfl⟩ ⟨by kernel_rfl, by kernel_rfl⟩ ⟨by kernel_rfl, by kernel_rfl⟩ (opens_int (k := .i64) rfl) (opens_str rfl) opens_ints (opens_bool rfl)) (fun _ => rfl) (fun x h => ⟨h.2.1, h.2.2.1.1⟩)
theorem opens_nodes : Opens Tryz.prog 22 (fun l : List Nd => [nds l]) smallNds :=
  opens_slice (e := 62) rfl (by kernel_rfl) (by decide) opens_node
end Go.My
end
