/- A part of the proof: the engine and the contracts, joined. -/
import Derived.Test.YtinkjpfkemkhaaaGreatDoorQK
import Derived.Test.YtinkjpfkemkhaaaGreatDoorProg
section
/- Arguments of a row opened into the engine's words. -/
set_option linter.unusedVariables false
set_option linter.unusedSimpArgs false
namespace Go.Eng
open Go.ChangeShapes Go.WideShapes Go.ChangeAt Go.RowKit

theorem open_one {H : Type} {enc : TypeId × Value → H} {P : Program} {t : TypeId} {α : Type} {f : α → AV} {good : α → Prop} (hO : Opens P t (fun x => [f x]) good) {W : World} {v : Value} (hc : isCell v)
    {d : DataW H} {ps : List MemPlace} (h : DataW.Trod enc P W 0 (fun _ => true) true t v d ps) : ∃ x, good x ∧ rel0 (Old W) W (f x) v (fun _ => False) := by
  obtain ⟨fuel, hf⟩ := h
  rw [cells_of_cell hc] at hf
  obtain ⟨x, hg, hr⟩ := hO enc W _ _ fuel _ _ hf
  exact ⟨x, hg, rel0L_one.1 hr⟩
theorem open_agg {H : Type} {enc : TypeId × Value → H} {P : Program} {t : TypeId} {α : Type} {f : α → List AV} {good : α → Prop} (hO : Opens P t f good) {W : World} {cs : Array Value}
    {d : DataW H} {ps : List MemPlace} (h : DataW.Trod enc P W 0 (fun _ => true) true t (.agg cs) d ps) : ∃ x, good x ∧ rel0 (Old W) W (.agg (f x)) (.agg cs) (fun _ => False) := by
  obtain ⟨fuel, hf⟩ := h
  obtain ⟨x, hg, hr⟩ := hO enc W _ _ fuel _ _ hf
  refine ⟨x, hg, ?_⟩
  simp only [rel0]
  exact ⟨_, rfl, hr⟩
theorem open_int1 {H : Type} {enc : TypeId × Value → H} {P : Program} {t : TypeId} {k : IntKind} (ht : P.underlying t = some (.int k)) {W : World} {r : Reach} {base : Nat} {v : Value} (hv : Value.okWide P W r base t v)
    {d : DataW H} {ps : List MemPlace} (h : DataW.Trod enc P W 0 (fun _ => true) true t v d ps) : ∃ n, inR k n ∧ rel0 (Old W) W (.int k n) v (fun _ => False) :=
  open_one (opens_int ht) (by obtain ⟨n, rfl⟩ := okWide_int ht hv; trivial) h
theorem open_str1 {H : Type} {enc : TypeId × Value → H} {P : Program} {t : TypeId} (ht : P.underlying t = some .string) {W : World} {r : Reach} {base : Nat} {v : Value} (hv : Value.okWide P W r base t v)
    {d : DataW H} {ps : List MemPlace} (h : DataW.Trod enc P W 0 (fun _ => true) true t v d ps) : ∃ s : List UInt8, s.length < 2 ^ 63 ∧ rel0 (Old W) W (.str s) v (fun _ => False) :=
  open_one (opens_str ht) (by obtain ⟨n, rfl⟩ := okWide_string ht hv; trivial) h
theorem open_sl1 {H : Type} {enc : TypeId × Value → H} {P : Program} {t e : TypeId} {α : Type} {f : α → AV} {good : α → Prop} (ht : P.underlying t = some (.slice e)) (hO : Opens P t (fun x => [f x]) good)
    {W : World} {r : Reach} {base : Nat} {v : Value} (hv : Value.okWide P W r base t v)
    {d : DataW H} {ps : List MemPlace} (h : DataW.Trod enc P W 0 (fun _ => true) true t v d ps) : ∃ x, good x ∧ rel0 (Old W) W (f x) v (fun _ => False) :=
  open_one hO (by obtain ⟨a, l, c, rfl⟩ := okWide_slice ht hv; trivial) h
theorem open_st1 {H : Type} {enc : TypeId × Value → H} {P : Program} {t : TypeId} {fs : Array Field} {α : Type} {f : α → List AV} {good : α → Prop} (ht : P.underlying t = some (.struct fs)) (hO : Opens P t f good)
    {W : World} {r : Reach} {base : Nat} {v : Value} (hv : Value.okWide P W r base t v)
    {d : DataW H} {ps : List MemPlace} (h : DataW.Trod enc P W 0 (fun _ => true) true t v d ps) : ∃ x, good x ∧ rel0 (Old W) W (.agg (f x)) v (fun _ => False) := by
  obtain ⟨cs, rfl, _⟩ := okWide_struct ht hv
  exact open_agg hO h
theorem rel0L_nil {Z : FP} {w : World} : rel0L Z w [] [] (fun _ => False) := ⟨rfl, emp_false⟩
/- structs of two and of four cells -/
theorem opens_st2 {P : Program} {t : TypeId} {f0 f1 : Field} {α β : Type} {a : α → AV} {b : β → AV} {ga : α → Prop} {gb : β → Prop} (ht : P.underlying t = some (.struct #[f0, f1])) (hn : P.cellsOf t = 2)
    (h0 : f0.offset = 0 ∧ P.cellsOf f0.type = 1) (h1 : f1.offset = 1 ∧ P.cellsOf f1.type = 1)
    (o0 : Opens P f0.type (fun x => [a x]) ga) (o1 : Opens P f1.type (fun x => [b x]) gb) : Opens P t (fun x : α × β => [a x.1, b x.2]) (fun x => ga x.1 ∧ gb x.2) := by
  intro H enc w spare held fuel cs y h
  obtain ⟨hl, n, hf⟩ := trod_struct_cells ht hn (fun i f hi => by
    match i, hi with
    | 0, hi => simp at hi; subst hi; exact h0
    | 1, hi => simp at hi; subst hi; exact h1
    | n + 2, hi => simp at hi) h
  match cs, hl with
  | [c0, c1], _ =>
    obtain ⟨z0, e0⟩ := hf 0 _ c0 rfl rfl
    obtain ⟨z1, e1⟩ := hf 1 _ c1 rfl rfl
    obtain ⟨x0, g0, r0⟩ := o0 enc w _ _ _ _ _ e0
    obtain ⟨x1, g1, r1⟩ := o1 enc w _ _ _ _ _ e1
    exact ⟨(x0, x1), ⟨g0, g1⟩, rel0L_cons (rel0L_one.1 r0) r1⟩
theorem opens_st4 {P : Program} {t : TypeId} {f0 f1 f2 f3 : Field} {α β γ δ : Type} {a : α → AV} {b : β → AV} {c : γ → AV} {d : δ → AV} {ga : α → Prop} {gb : β → Prop} {gc : γ → Prop} {gd : δ → Prop}
    (ht : P.underlying t = some (.struct #[f0, f1, f2, f3])) (hn : P.cellsOf t = 4)
    (h0 : f0.offset = 0 ∧ P.cellsOf f0.type = 1) (h1 : f1.offset = 1 ∧ P.cellsOf f1.type = 1) (h2 : f2.offset = 2 ∧ P.cellsOf f2.type = 1) (h3 : f3.offset = 3 ∧ P.cellsOf f3.type = 1)
    (o0 : Opens P f0.type (fun x => [a x]) ga) (o1 : Opens P f1.type (fun x => [b x]) gb) (o2 : Opens P f2.type (fun x => [c x]) gc) (o3 : Opens P f3.type (fun x => [d x]) gd) :
    Opens P t (fun x : α × β × γ × δ => [a x.1, b x.2.1, c x.2.2.1, d x.2.2.2]) (fun x => ga x.1 ∧ gb x.2.1 ∧ gc x.2.2.1 ∧ gd x.2.2.2) := by
  intro H enc w spare held fuel cs y h
  obtain ⟨hl, n, hf⟩ := trod_struct_cells ht hn (fun i f hi => by
    match i, hi with
    | 0, hi => simp at hi; subst hi; exact h0
    | 1, hi => simp at hi; subst hi; exact h1
    | 2, hi => simp at hi; subst hi; exact h2
    | 3, hi => simp at hi; subst hi; exact h3
    | n + 4, hi => simp at hi) h
  match cs, hl with
  | [c0, c1, c2, c3], _ =>
    obtain ⟨z0, e0⟩ := hf 0 _ c0 rfl rfl
    obtain ⟨z1, e1⟩ := hf 1 _ c1 rfl rfl
    obtain ⟨z2, e2⟩ := hf 2 _ c2 rfl rfl
    obtain ⟨z3, e3⟩ := hf 3 _ c3 rfl rfl
    obtain ⟨x0, g0, r0⟩ := o0 enc w _ _ _ _ _ e0
    obtain ⟨x1, g1, r1⟩ := o1 enc w _ _ _ _ _ e1
    obtain ⟨x2, g2, r2⟩ := o2 enc w _ _ _ _ _ e2
    obtain ⟨x3, g3, r3⟩ := o3 enc w _ _ _ _ _ e3
    exact ⟨(x0, x1, x2, x3), ⟨g0, g1, g2, g3⟩, rel0L_cons (rel0L_one.1 r0) (rel0L_cons (rel0L_one.1 r1) (rel0L_cons (rel0L_one.1 r2) r3))⟩
theorem opens_map {P : Program} {t : TypeId} {α β : Type} {f : α → List AV} {g : β → List AV} {p : α → Prop} {q : β → Prop} (m : α → β) (ho : Opens P t f p) (hf : ∀ x, f x = g (m x)) (hg : ∀ x, p x → q (m x)) : Opens P t g q := by
  intro H enc w spare held fuel cs y h
  obtain ⟨x, hx, hr⟩ := ho enc w _ _ fuel _ _ h
  exact ⟨m x, hg x hx, by rw [← hf]; exact hr⟩
end Go.Eng
end
section
/- The laws' arguments opened. -/
set_option linter.unusedVariables false
set_option maxRecDepth 100000
namespace Go.My
open Go.Eng Go.Proofs
variable {G : GInv}

theorem opens_ints : Opens Tryz.prog 39 (fun l : List Int => [ints l]) (fun l => l.length < 2 ^ 63 ∧ ∀ x ∈ l, inR .i64 x) :=
  opens_slice (e := 3) rfl (by kernel_rfl) (by decide) (opens_int rfl)
theorem opens_node : Opens Tryz.prog 62 (ndA false) smallNd :=
  opens_map (fun x : Int × List UInt8 × List Int × Bool => (⟨x.1, x.2.1, x.2.2.1, x.2.2.2⟩ : Nd)) (opens_st4 (t := 62) (P := Tryz.prog) (a := fun n => .int .i64 n) (b := .str) (c := ints) (d := .bool)
    (gd := fun _ => True) rfl (by kernel_rfl) ⟨by kernel_rfl, by kernel_rfl⟩ ⟨by kernel_rfl, by kernel_rfl⟩ ⟨by kernel_rfl, by kernel_rfl⟩ ⟨by kernel_rfl, by kernel_rfl⟩ (opens_int (k := .i64) rfl) (opens_str rfl) opens_ints (opens_bool rfl)) (fun _ => rfl) (fun x h => ⟨h.2.1, h.2.2.1.1⟩)
theorem opens_nodes : Opens Tryz.prog 22 (fun l : List Nd => [nds l]) smallNds :=
  opens_slice (e := 62) rfl (by kernel_rfl) (by decide) opens_node
end Go.My
end
