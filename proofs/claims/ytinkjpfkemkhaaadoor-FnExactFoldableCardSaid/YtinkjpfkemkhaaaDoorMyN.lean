/- What is reckoned ahead: the reference's functions. -/
import Derived.Test.YtinkjpfkemkhaaaDoorMyM
set_option linter.unusedVariables false
set_option linter.unusedSimpArgs false
namespace Go.My
open Go.Eng Go.Proofs

theorem constOf_all : ∀ n : Nat, Contract Go.Proofs.Tryd.prog 28 (s_cR n)
  | 0 => constZ_ok
  | n + 1 => constS_ok n (constOf_all n)
theorem opt_cases {o : Option Int} : (o.isSome = true ∧ o = some (oI o)) ∨ (o.isSome = false ∧ o = none) := by
  cases o with
  | none => exact .inr ⟨rfl, rfl⟩
  | some v => exact .inl ⟨rfl, rfl⟩
def s_l24Figures  : Sig := { X := List UInt8, args := fun x => [.str x], pre := fun x => x.all isFig = true ∧ 1 ≤ x.length ∧ x.length ≤ 12, Y := Unit, post := fun x y => True, res := fun x y => .tup [.int .i64 (if 9 < x.length then 0 else figV x), .bool (decide (x.length ≤ 9))], outs := fun x y => [.top], keep := false }
theorem l24Figures_vc (x : List UInt8) : vcFun Go.Proofs.Tryd.prog (Γof [(57, 0, s_l04Figure)]) (Eof []) false (Lof ([(3,{ ι := Int, inv := fun i => 0 ≤ i ∧ i ≤ x.length ∧ (i = 0 ∨ x.length ≤ 9), regs := fun i => [(0, .str x), (4, .int .i64 (figV (x.take i.toNat))), (5, .int .i64 i)], als := [], meas := fun i => x.length - i.toNat })])) Go.Proofs.Tryd.f46.ntmps Go.Proofs.Tryd.f46.results.toList (Go.Proofs.Tryd.f46.body.getD .skip) s_l24Figures x = ((∀ (y : Unit), True → (True ∧ True ∧ True) ∧ True ∧ True) ∧ (∃ (i : Int), ((0 : Int) ≤ i ∧ i ≤ (↑(List.length x) : Int) ∧ (i = (0 : Int) ∨ List.length x ≤ (9 : Nat))) ∧ (x = x ∧ (0 : Int) = figV (List.take (Int.toNat i) x) ∧ (0 : Int) = i ∧ True) ∧ True) ∧ ∀ (i : Int), (0 : Int) ≤ i ∧ i ≤ (↑(List.length x) : Int) ∧ (i = (0 : Int) ∨ List.length x ≤ (9 : Nat)) → bcase (decide (i < (↑(List.length x) : Int))) (((0 : Int) ≤ i ∧ i < (↑(List.length x) : Int)) ∧ ∀ (c : UInt8), x[Int.toNat i]? = some c → ∃ (x_1 : UInt8), True ∧ (↑(UInt8.toNat c) : Int) = (↑(UInt8.toNat x_1) : Int) ∧ ∀ (y : Unit), True → bcase (!isFig x_1) (∃ (y : Unit), True ∧ ((0 : Int) = if (9 : Nat) < List.length x then (0 : Int) else figV x) ∧ false = decide (List.length x ≤ (9 : Nat)) ∧ True) (inR IntKind.i64 ((10 : Int) * figV (List.take (Int.toNat i) x)) ∧ ((0 : Int) ≤ i ∧ i < (↑(List.length x) : Int)) ∧ ∀ (c : UInt8), x[Int.toNat i]? = some c → inR IntKind.i64 (↑(UInt8.toNat c) : Int) ∧ inR IntKind.i64 ((10 : Int) * figV (List.take (Int.toNat i) x) + (↑(UInt8.toNat c) : Int)) ∧ inR IntKind.i64 ((10 : Int) * figV (List.take (Int.toNat i) x) + (↑(UInt8.toNat c) : Int) - (48 : Int)) ∧ bcase (decide ((↑(List.length x) : Int) > (9 : Int))) (∃ (y : Unit), True ∧ ((0 : Int) = if (9 : Nat) < List.length x then (0 : Int) else figV x) ∧ false = decide (List.length x ≤ (9 : Nat)) ∧ True) (inR IntKind.i64 (i + (1 : Int)) ∧ ∃ (i' : Int), ((0 : Int) ≤ i' ∧ i' ≤ (↑(List.length x) : Int) ∧ (i' = (0 : Int) ∨ List.length x ≤ (9 : Nat))) ∧ List.length x - Int.toNat i' < List.length x - Int.toNat i ∧ (x = x ∧ (10 : Int) * figV (List.take (Int.toNat i) x) + (↑(UInt8.toNat c) : Int) - (48 : Int) = figV (List.take (Int.toNat i') x) ∧ i + (1 : Int) = i' ∧ True) ∧ True))) (∃ (y : Unit), True ∧ (figV (List.take (Int.toNat i) x) = if (9 : Nat) < List.length x then (0 : Int) else figV x) ∧ decide ((↑(List.length x) : Int) > (0 : Int)) = decide (List.length x ≤ (9 : Nat)) ∧ True)) := by kernel_rfl
theorem l24Figures_ok  : Contract Tryd.prog 46 s_l24Figures :=
  vcFun_ok (Γ := Γof [(57, 0, s_l04Figure)]) (E := Eof []) (ov := false) (L := fun x => Lof ([(3,{ ι := Int, inv := fun i => 0 ≤ i ∧ i ≤ x.length ∧ (i = 0 ∨ x.length ≤ 9), regs := fun i => [(0, .str x), (4, .int .i64 (figV (x.take i.toNat))), (5, .int .i64 i)], als := [], meas := fun i => x.length - i.toNat })])) Tryd.func46 rfl (by decide) (Γof_ok (l := [(57, 0, s_l04Figure)]) ⟨l04Figure_ok, trivial⟩) fun (x : List UInt8) (hx : x.all isFig = true ∧ 1 ≤ x.length ∧ x.length ≤ 12) => (l24Figures_vc  x).mpr (by
  obtain ⟨h1, h2, h3⟩ := hx
  have hb : ∀ i : Int, i = 0 ∨ x.length ≤ 9 → 0 ≤ figV (x.take i.toNat) ∧ figV (x.take i.toNat) < 1000000000 := fun i hi => figV_bd (List.all_eq_true.2 fun c hc => List.all_eq_true.1 h1 c (List.mem_of_mem_take hc)) (by simp; omega)
  (repeat' first | with_reducible rfl | exact True.intro | refine inR_i64 ?_ ?_ | with_reducible refine And.intro ?_ ?_ | with_reducible refine bcase_dec (fun _ => ?_) (fun _ => ?_) | with_reducible refine bcase_bne (fun _ => ?_) (fun _ => ?_) | with_reducible refine bcase_beq (fun _ => ?_) (fun _ => ?_) | with_reducible refine bcase_not (fun _ => ?_) (fun _ => ?_) | refine bcase_intro (fun _ => ?_) (fun _ => ?_) | refine sl_eq ?_ | refine ex_flip () ?_ ?_ | (apply ex_flip6 <;> try dsimp only) | (apply ex_flip5 <;> try dsimp only) | (apply ex_flip4 <;> try dsimp only) | (apply ex_flip3 <;> try dsimp only) | (apply ex_flip2 <;> try dsimp only) | apply ex_flip | (refine Prod.forall.2 ?_; intro _; try dsimp only) | (intro _; try dsimp only))
  all_goals try (have hf := fig_at h1 (show x[Int.toNat _]? = some _ by assumption))
  all_goals try (have hbb := hb _ (show _ ∧ _ ∧ _ by assumption).2.2)
  all_goals first
    | rfl
    | omega
    | ((try simp only [i64max]); omega)
    | (simp [isFig] at *; omega)
    | (rw [toNat1 (by omega), figV_take (by assumption)]; omega)
    | (rw [List.take_of_length_le (by omega), if_neg (by omega)]; done)
    | (rw [if_pos (by omega)]; done)
    | (rw [decide_eq_decide]; omega)
    | (symm; exact decide_eq_false (by omega))
    | skip)

def s_lR (n : Nat) : Sig := { X := List Nd × Int, args := fun x => [nds x.1, .int .i64 x.2], pre := fun x => consP n x, Y := Unit, post := fun x y => True, res := fun x y => .tup [.int .i64 (oI (cV x.1 x.2)), .bool (cV x.1 x.2).isSome], outs := fun x y => [.top, .top], keep := false }
def lc (ns : List Nd) (x : Nd) (i a : Int) (ok : Bool) : Prop := 1 ≤ i ∧ i ≤ x.kids.length ∧ (ok = true → bdd a ∧ chainF x.text ((x.kids.take i.toNat).map (cV ns)) = some a) ∧ (ok = false → chainF x.text ((x.kids.take i.toNat).map (cV ns)) = none)
theorem lc_init {ns : List Nd} {x : Nd} {c : Int} (hc : x.kids[0]? = some c) (hu : okUp ns c) : lc ns x 1 (oI (cV ns c)) (cV ns c).isSome := by
  have := (getE hc).1
  have e : (x.kids.take (1 : Int).toNat).map (cV ns) = [cV ns c] := by
    rw [show (1 : Int).toNat = 0 + 1 from rfl, takeE hc]; rfl
  refine ⟨by omega, by omega, fun h => ⟨oI_bd hu, ?_⟩, fun h => ?_⟩
  · rw [e]; simp only [chainF, List.foldl_nil]; exact some_oI h
  · rw [e]; simp only [chainF, List.foldl_nil]
    rcases opt_cases (o := cV ns c) with h1 | h2
    · rw [h1.1] at h; cases h
    · exact h2.2
theorem lc_snoc {ns : List Nd} {x : Nd} {i a c : Int} (h : lc ns x i a true) (hc : x.kids[i.toNat]? = some c) : chainF x.text ((x.kids.take (i + 1).toNat).map (cV ns)) = stepV x.text (some a) (cV ns c) := by
  have h1 := h.1
  have := (getE hc).1
  rw [toNat1 (by omega), takeE hc, List.map_append, List.map_cons, List.map_nil, chainF_snoc, (h.2.2.1 rfl).2]
  intro e
  simp only [List.map_eq_nil_iff, List.take_eq_nil_iff] at e
  rcases e with e | e
  · omega
  · rw [e] at this; simp at this
theorem lc_no {ns : List Nd} {x : Nd} {i a c r : Int} (h : lc ns x i a true) (hc : x.kids[i.toNat]? = some c) (hs : (cV ns c).isSome = false) : lc ns x (i + 1) r false := by
  have := (getE hc).1
  have h1 := h.1
  refine ⟨by omega, by omega, fun h => (by cases h), fun _ => ?_⟩
  rw [lc_snoc h hc]
  rcases opt_cases (o := cV ns c) with h1 | h2
  · rw [h1.1] at hs; cases hs
  · rw [h2.2]; rfl
theorem lc_yes {ns : List Nd} {x : Nd} {i a c r : Int} (h : lc ns x i a true) (hc : x.kids[i.toNat]? = some c) (hs : (cV ns c).isSome = true) (hr : r = reck x.text a (oI (cV ns c))) : lc ns x (i + 1) r (inn r (-1000000000) 1000000000) := by
  have := (getE hc).1
  have h1 := h.1
  have e := lc_snoc h hc
  rw [some_oI hs] at e
  simp only [stepV] at e
  rw [← hr] at e
  refine ⟨by omega, by omega, fun hb => ?_, fun hb => ?_⟩
  · rw [if_pos hb] at e; exact ⟨inn_iff.1 hb, e⟩
  · rw [if_neg (by simp [hb])] at e; exact e
theorem lc_none {ns : List Nd} {x : Nd} {i a : Int} (h : lc ns x i a false) : chainF x.text (x.kids.map (cV ns)) = none := by
  have e : x.kids = x.kids.take i.toNat ++ x.kids.drop i.toNat := (List.take_append_drop _ _).symm
  have h1 := h.2.2.2 rfl
  rw [e, List.map_append]
  refine chainF_none ?_ h1
  intro e2; rw [e2] at h1; cases h1
theorem lc_some {ns : List Nd} {x : Nd} {i a : Int} (h : lc ns x i a true) (hl : ¬ i < x.kids.length) : chainF x.text (x.kids.map (cV ns)) = some a := by
  have h1 := (h.2.2.1 rfl).2
  rwa [List.take_of_length_le (by have := h.1; omega)] at h1
def lL (x : List Nd × Int) : LS := {
  ι := Int × Int × Bool, inv := fun i => lc x.1 (ndAt x.1 x.2) i.1 i.2.1 i.2.2,
  regs := fun i => [(0, nds x.1), (6, .box 0 (ndA false (ndAt x.1 x.2))), (7, .int .i64 i.2.1), (8, .bool i.2.2), (9, .int .i64 i.1)], als := [], meas := fun i => (ndAt x.1 x.2).kids.length - i.1.toNat }
def lLJ (x : List Nd × Int) : LS := {
  ι := Unit, inv := fun _ => opOk (ndAt x.1 x.2).text = true,
  regs := fun i => [(0, nds x.1), (6, .box 0 (ndA false (ndAt x.1 x.2)))], als := [], meas := fun i => 0 }
theorem consP_len {n : Nat} {x : List Nd × Int} {y : Nd} (h : consP (n + 1) x) (hy : x.1[x.2.toNat]? = some y) (hk : y.kind = 7) : 2 ≤ y.kids.length := by
  have := okUp7 h.2.1 (by rw [ndAt_of hy]; exact hk); rwa [ndAt_of hy] at this
def s_l25Z  : Sig := { X := List Nd × Int, args := fun x => [nds x.1, .int .i64 x.2], pre := fun x => consP 0 x, Y := Unit, post := fun x y => True, res := fun x y => .tup [.int .i64 (oI (cV x.1 x.2)), .bool (cV x.1 x.2).isSome], outs := fun x y => [.top, .top], keep := false }
theorem l25Z_vc (x : List Nd × Int) : vcFun Go.Proofs.Tryd.prog (Γof []) (Eof []) false (Lof ([])) Go.Proofs.Tryd.f25.ntmps Go.Proofs.Tryd.f25.results.toList (Go.Proofs.Tryd.f25.body.getD .skip) s_l25Z x = ((∀ (y : Unit), True → (True ∧ True ∧ True) ∧ True ∧ True ∧ True) ∧ ((0 : Int) ≤ x.snd ∧ x.snd < (↑(List.length x.fst) : Int)) ∧ ∀ (e : Nd), x.fst[Int.toNat x.snd]? = some e → bcase (e.kind == (2 : Int)) False (bcase (e.kind == (11 : Int)) (((0 : Int) ≤ (0 : Int) ∧ (0 : Int) < (↑(List.length e.kids) : Int)) ∧ ∀ (e_1 : Int), e.kids[(0 : Nat)]? = some e_1 → False) (bcase (e.kind == (7 : Int)) (bcase (!e.text == #[(43 : UInt8)].toList) (bcase (!e.text == #[(45 : UInt8)].toList) (bcase (!e.text == #[(42 : UInt8)].toList) (∃ (y : Unit), True ∧ (0 : Int) = oI (cV x.fst x.snd) ∧ false = Option.isSome (cV x.fst x.snd) ∧ True) (((0 : Int) ≤ (0 : Int) ∧ (0 : Int) < (↑(List.length e.kids) : Int)) ∧ ∀ (e_1 : Int), e.kids[(0 : Nat)]? = some e_1 → False)) (((0 : Int) ≤ (0 : Int) ∧ (0 : Int) < (↑(List.length e.kids) : Int)) ∧ ∀ (e_1 : Int), e.kids[(0 : Nat)]? = some e_1 → False)) (((0 : Int) ≤ (0 : Int) ∧ (0 : Int) < (↑(List.length e.kids) : Int)) ∧ ∀ (e_1 : Int), e.kids[(0 : Nat)]? = some e_1 → False)) (∃ (y : Unit), True ∧ (0 : Int) = oI (cV x.fst x.snd) ∧ false = Option.isSome (cV x.fst x.snd) ∧ True)))) := by kernel_rfl
theorem l25Z_ok  : Contract Tryd.prog 25 s_l25Z :=
  vcFun_ok (Γ := Γof []) (E := Eof []) (ov := false) (L := fun x => Lof ([])) Tryd.func25 rfl (by decide) (Γof_ok (l := []) trivial) fun (x : List Nd × Int) (hx : consP 0 x) => (l25Z_vc  x).mpr (by
  have h1 := hx.2.2; have h2 := isNd_iff.1 hx.2.1.1
  omega)

def s_l25S (n : Nat) : Sig := { X := List Nd × Int, args := fun x => [nds x.1, .int .i64 x.2], pre := fun x => consP (n + 1) x, Y := Unit, post := fun x y => True, res := fun x y => .tup [.int .i64 (oI (cV x.1 x.2)), .bool (cV x.1 x.2).isSome], outs := fun x y => [.top, .top], keep := false }
theorem l25S_vc (n : Nat) (x : List Nd × Int) : vcFun Go.Proofs.Tryd.prog (Γof [(25, 0, (s_lR n)), (46, 0, s_l24Figures), (44, 0, s_l01In)]) (Eof []) false (Lof ([(12,lL x), (200010,lLJ x)])) Go.Proofs.Tryd.f25.ntmps Go.Proofs.Tryd.f25.results.toList (Go.Proofs.Tryd.f25.body.getD .skip) (s_l25S n) x = ((∀ (y : Unit), True → (True ∧ True ∧ True) ∧ True ∧ True ∧ True) ∧ ((0 : Int) ≤ x.snd ∧ x.snd < (↑(List.length x.fst) : Int)) ∧ ∀ (e : Nd), x.fst[Int.toNat x.snd]? = some e → bcase (e.kind == (2 : Int)) (∃ (x_1 : List UInt8), (List.all x_1 isFig = true ∧ (1 : Nat) ≤ List.length x_1 ∧ List.length x_1 ≤ (12 : Nat)) ∧ e.text = x_1 ∧ ∀ (y : Unit), True → ∃ (y : Unit), True ∧ (if (9 : Nat) < List.length x_1 then (0 : Int) else figV x_1) = oI (cV x.fst x.snd) ∧ decide (List.length x_1 ≤ (9 : Nat)) = Option.isSome (cV x.fst x.snd) ∧ True) (bcase (e.kind == (11 : Int)) (((0 : Int) ≤ (0 : Int) ∧ (0 : Int) < (↑(List.length e.kids) : Int)) ∧ ∀ (e_1 : Int), e.kids[(0 : Nat)]? = some e_1 → ∃ (x_1 : List Nd × Int), consP n x_1 ∧ AV.sl false (0 : Nat) (4 : Nat) Nd (ndA false) x.fst = AV.sl false (0 : Nat) (4 : Nat) Nd (ndA false) x_1.fst ∧ e_1 = x_1.snd ∧ ∀ (y : Unit), True → ∃ (y : Unit), True ∧ oI (cV x_1.fst x_1.snd) = oI (cV x.fst x.snd) ∧ Option.isSome (cV x_1.fst x_1.snd) = Option.isSome (cV x.fst x.snd) ∧ True) (bcase (e.kind == (7 : Int)) (bcase (!e.text == #[(43 : UInt8)].toList) (bcase (!e.text == #[(45 : UInt8)].toList) (bcase (!e.text == #[(42 : UInt8)].toList) (∃ (y : Unit), True ∧ (0 : Int) = oI (cV x.fst x.snd) ∧ false = Option.isSome (cV x.fst x.snd) ∧ True) (∃ (i : Unit), opOk (ndAt x.fst x.snd).text = true ∧ (AV.sl false (0 : Nat) (4 : Nat) Nd (ndA false) x.fst = AV.sl false (0 : Nat) (4 : Nat) Nd (ndA false) x.fst ∧ e.kind = (ndAt x.fst x.snd).kind ∧ e.text = (ndAt x.fst x.snd).text ∧ AV.sl false (0 : Nat) (1 : Nat) Int intA e.kids = AV.sl false (0 : Nat) (1 : Nat) Int intA (ndAt x.fst x.snd).kids ∧ e.blank = (ndAt x.fst x.snd).blank ∧ True) ∧ True)) (∃ (i : Unit), opOk (ndAt x.fst x.snd).text = true ∧ (AV.sl false (0 : Nat) (4 : Nat) Nd (ndA false) x.fst = AV.sl false (0 : Nat) (4 : Nat) Nd (ndA false) x.fst ∧ e.kind = (ndAt x.fst x.snd).kind ∧ e.text = (ndAt x.fst x.snd).text ∧ AV.sl false (0 : Nat) (1 : Nat) Int intA e.kids = AV.sl false (0 : Nat) (1 : Nat) Int intA (ndAt x.fst x.snd).kids ∧ e.blank = (ndAt x.fst x.snd).blank ∧ True) ∧ True)) (∃ (i : Unit), opOk (ndAt x.fst x.snd).text = true ∧ (AV.sl false (0 : Nat) (4 : Nat) Nd (ndA false) x.fst = AV.sl false (0 : Nat) (4 : Nat) Nd (ndA false) x.fst ∧ e.kind = (ndAt x.fst x.snd).kind ∧ e.text = (ndAt x.fst x.snd).text ∧ AV.sl false (0 : Nat) (1 : Nat) Int intA e.kids = AV.sl false (0 : Nat) (1 : Nat) Int intA (ndAt x.fst x.snd).kids ∧ e.blank = (ndAt x.fst x.snd).blank ∧ True) ∧ True) ∧ ∀ (i : Unit), opOk (ndAt x.fst x.snd).text = true → ((0 : Int) ≤ (0 : Int) ∧ (0 : Int) < (↑(List.length (ndAt x.fst x.snd).kids) : Int)) ∧ ∀ (e : Int), (ndAt x.fst x.snd).kids[(0 : Nat)]? = some e → ∃ (x_1 : List Nd × Int), consP n x_1 ∧ AV.sl false (0 : Nat) (4 : Nat) Nd (ndA false) x.fst = AV.sl false (0 : Nat) (4 : Nat) Nd (ndA false) x_1.fst ∧ e = x_1.snd ∧ ∀ (y : Unit), True → (∃ (i : Int × Int × Bool), lc x.fst (ndAt x.fst x.snd) i.fst i.snd.fst i.snd.snd ∧ (AV.sl false (0 : Nat) (4 : Nat) Nd (ndA false) x.fst = AV.sl false (0 : Nat) (4 : Nat) Nd (ndA false) x.fst ∧ (ndAt x.fst x.snd).kind = (ndAt x.fst x.snd).kind ∧ (ndAt x.fst x.snd).text = (ndAt x.fst x.snd).text ∧ AV.sl false (0 : Nat) (1 : Nat) Int intA (ndAt x.fst x.snd).kids = AV.sl false (0 : Nat) (1 : Nat) Int intA (ndAt x.fst x.snd).kids ∧ (ndAt x.fst x.snd).blank = (ndAt x.fst x.snd).blank ∧ oI (cV x_1.fst x_1.snd) = i.snd.fst ∧ Option.isSome (cV x_1.fst x_1.snd) = i.snd.snd ∧ (1 : Int) = i.fst ∧ True) ∧ True) ∧ ∀ (i : Int × Int × Bool), lc x.fst (ndAt x.fst x.snd) i.fst i.snd.fst i.snd.snd → bcase (decide (i.fst < (↑(List.length (ndAt x.fst x.snd).kids) : Int))) (bcase i.snd.snd (((0 : Int) ≤ i.fst ∧ i.fst < (↑(List.length (ndAt x.fst x.snd).kids) : Int)) ∧ ∀ (e : Int), (ndAt x.fst x.snd).kids[Int.toNat i.fst]? = some e → ∃ (x_2 : List Nd × Int), consP n x_2 ∧ AV.sl false (0 : Nat) (4 : Nat) Nd (ndA false) x.fst = AV.sl false (0 : Nat) (4 : Nat) Nd (ndA false) x_2.fst ∧ e = x_2.snd ∧ ∀ (y : Unit), True → bcase ((ndAt x.fst x.snd).text == #[(43 : UInt8)].toList) (inR IntKind.i64 (i.snd.fst + oI (cV x_2.fst x_2.snd)) ∧ bcase (Option.isSome (cV x_2.fst x_2.snd)) (∃ (x_3 : Int × Int × Int), True ∧ i.snd.fst + oI (cV x_2.fst x_2.snd) = x_3.fst ∧ (-1000000000 : Int) = x_3.snd.fst ∧ (1000000000 : Int) = x_3.snd.snd ∧ ∀ (y : Unit), True → inR IntKind.i64 (i.fst + (1 : Int)) ∧ ∃ (i' : Int × Int × Bool), lc x.fst (ndAt x.fst x.snd) i'.fst i'.snd.fst i'.snd.snd ∧ List.length (ndAt x.fst x.snd).kids - Int.toNat i'.fst < List.length (ndAt x.fst x.snd).kids - Int.toNat i.fst ∧ (AV.sl false (0 : Nat) (4 : Nat) Nd (ndA false) x.fst = AV.sl false (0 : Nat) (4 : Nat) Nd (ndA false) x.fst ∧ (ndAt x.fst x.snd).kind = (ndAt x.fst x.snd).kind ∧ (ndAt x.fst x.snd).text = (ndAt x.fst x.snd).text ∧ AV.sl false (0 : Nat) (1 : Nat) Int intA (ndAt x.fst x.snd).kids = AV.sl false (0 : Nat) (1 : Nat) Int intA (ndAt x.fst x.snd).kids ∧ (ndAt x.fst x.snd).blank = (ndAt x.fst x.snd).blank ∧ i.snd.fst + oI (cV x_2.fst x_2.snd) = i'.snd.fst ∧ inn x_3.fst x_3.snd.fst x_3.snd.snd = i'.snd.snd ∧ i.fst + (1 : Int) = i'.fst ∧ True) ∧ True) (inR IntKind.i64 (i.fst + (1 : Int)) ∧ ∃ (i' : Int × Int × Bool), lc x.fst (ndAt x.fst x.snd) i'.fst i'.snd.fst i'.snd.snd ∧ List.length (ndAt x.fst x.snd).kids - Int.toNat i'.fst < List.length (ndAt x.fst x.snd).kids - Int.toNat i.fst ∧ (AV.sl false (0 : Nat) (4 : Nat) Nd (ndA false) x.fst = AV.sl false (0 : Nat) (4 : Nat) Nd (ndA false) x.fst ∧ (ndAt x.fst x.snd).kind = (ndAt x.fst x.snd).kind ∧ (ndAt x.fst x.snd).text = (ndAt x.fst x.snd).text ∧ AV.sl false (0 : Nat) (1 : Nat) Int intA (ndAt x.fst x.snd).kids = AV.sl false (0 : Nat) (1 : Nat) Int intA (ndAt x.fst x.snd).kids ∧ (ndAt x.fst x.snd).blank = (ndAt x.fst x.snd).blank ∧ i.snd.fst + oI (cV x_2.fst x_2.snd) = i'.snd.fst ∧ false = i'.snd.snd ∧ i.fst + (1 : Int) = i'.fst ∧ True) ∧ True)) (bcase ((ndAt x.fst x.snd).text == #[(45 : UInt8)].toList) (inR IntKind.i64 (i.snd.fst - oI (cV x_2.fst x_2.snd)) ∧ bcase (Option.isSome (cV x_2.fst x_2.snd)) (∃ (x_3 : Int × Int × Int), True ∧ i.snd.fst - oI (cV x_2.fst x_2.snd) = x_3.fst ∧ (-1000000000 : Int) = x_3.snd.fst ∧ (1000000000 : Int) = x_3.snd.snd ∧ ∀ (y : Unit), True → inR IntKind.i64 (i.fst + (1 : Int)) ∧ ∃ (i' : Int × Int × Bool), lc x.fst (ndAt x.fst x.snd) i'.fst i'.snd.fst i'.snd.snd ∧ List.length (ndAt x.fst x.snd).kids - Int.toNat i'.fst < List.length (ndAt x.fst x.snd).kids - Int.toNat i.fst ∧ (AV.sl false (0 : Nat) (4 : Nat) Nd (ndA false) x.fst = AV.sl false (0 : Nat) (4 : Nat) Nd (ndA false) x.fst ∧ (ndAt x.fst x.snd).kind = (ndAt x.fst x.snd).kind ∧ (ndAt x.fst x.snd).text = (ndAt x.fst x.snd).text ∧ AV.sl false (0 : Nat) (1 : Nat) Int intA (ndAt x.fst x.snd).kids = AV.sl false (0 : Nat) (1 : Nat) Int intA (ndAt x.fst x.snd).kids ∧ (ndAt x.fst x.snd).blank = (ndAt x.fst x.snd).blank ∧ i.snd.fst - oI (cV x_2.fst x_2.snd) = i'.snd.fst ∧ inn x_3.fst x_3.snd.fst x_3.snd.snd = i'.snd.snd ∧ i.fst + (1 : Int) = i'.fst ∧ True) ∧ True) (inR IntKind.i64 (i.fst + (1 : Int)) ∧ ∃ (i' : Int × Int × Bool), lc x.fst (ndAt x.fst x.snd) i'.fst i'.snd.fst i'.snd.snd ∧ List.length (ndAt x.fst x.snd).kids - Int.toNat i'.fst < List.length (ndAt x.fst x.snd).kids - Int.toNat i.fst ∧ (AV.sl false (0 : Nat) (4 : Nat) Nd (ndA false) x.fst = AV.sl false (0 : Nat) (4 : Nat) Nd (ndA false) x.fst ∧ (ndAt x.fst x.snd).kind = (ndAt x.fst x.snd).kind ∧ (ndAt x.fst x.snd).text = (ndAt x.fst x.snd).text ∧ AV.sl false (0 : Nat) (1 : Nat) Int intA (ndAt x.fst x.snd).kids = AV.sl false (0 : Nat) (1 : Nat) Int intA (ndAt x.fst x.snd).kids ∧ (ndAt x.fst x.snd).blank = (ndAt x.fst x.snd).blank ∧ i.snd.fst - oI (cV x_2.fst x_2.snd) = i'.snd.fst ∧ false = i'.snd.snd ∧ i.fst + (1 : Int) = i'.fst ∧ True) ∧ True)) (inR IntKind.i64 (i.snd.fst * oI (cV x_2.fst x_2.snd)) ∧ bcase (Option.isSome (cV x_2.fst x_2.snd)) (∃ (x_3 : Int × Int × Int), True ∧ i.snd.fst * oI (cV x_2.fst x_2.snd) = x_3.fst ∧ (-1000000000 : Int) = x_3.snd.fst ∧ (1000000000 : Int) = x_3.snd.snd ∧ ∀ (y : Unit), True → inR IntKind.i64 (i.fst + (1 : Int)) ∧ ∃ (i' : Int × Int × Bool), lc x.fst (ndAt x.fst x.snd) i'.fst i'.snd.fst i'.snd.snd ∧ List.length (ndAt x.fst x.snd).kids - Int.toNat i'.fst < List.length (ndAt x.fst x.snd).kids - Int.toNat i.fst ∧ (AV.sl false (0 : Nat) (4 : Nat) Nd (ndA false) x.fst = AV.sl false (0 : Nat) (4 : Nat) Nd (ndA false) x.fst ∧ (ndAt x.fst x.snd).kind = (ndAt x.fst x.snd).kind ∧ (ndAt x.fst x.snd).text = (ndAt x.fst x.snd).text ∧ AV.sl false (0 : Nat) (1 : Nat) Int intA (ndAt x.fst x.snd).kids = AV.sl false (0 : Nat) (1 : Nat) Int intA (ndAt x.fst x.snd).kids ∧ (ndAt x.fst x.snd).blank = (ndAt x.fst x.snd).blank ∧ i.snd.fst * oI (cV x_2.fst x_2.snd) = i'.snd.fst ∧ inn x_3.fst x_3.snd.fst x_3.snd.snd = i'.snd.snd ∧ i.fst + (1 : Int) = i'.fst ∧ True) ∧ True) (inR IntKind.i64 (i.fst + (1 : Int)) ∧ ∃ (i' : Int × Int × Bool), lc x.fst (ndAt x.fst x.snd) i'.fst i'.snd.fst i'.snd.snd ∧ List.length (ndAt x.fst x.snd).kids - Int.toNat i'.fst < List.length (ndAt x.fst x.snd).kids - Int.toNat i.fst ∧ (AV.sl false (0 : Nat) (4 : Nat) Nd (ndA false) x.fst = AV.sl false (0 : Nat) (4 : Nat) Nd (ndA false) x.fst ∧ (ndAt x.fst x.snd).kind = (ndAt x.fst x.snd).kind ∧ (ndAt x.fst x.snd).text = (ndAt x.fst x.snd).text ∧ AV.sl false (0 : Nat) (1 : Nat) Int intA (ndAt x.fst x.snd).kids = AV.sl false (0 : Nat) (1 : Nat) Int intA (ndAt x.fst x.snd).kids ∧ (ndAt x.fst x.snd).blank = (ndAt x.fst x.snd).blank ∧ i.snd.fst * oI (cV x_2.fst x_2.snd) = i'.snd.fst ∧ false = i'.snd.snd ∧ i.fst + (1 : Int) = i'.fst ∧ True) ∧ True)))) (bcase i.snd.snd (∃ (y : Unit), True ∧ i.snd.fst = oI (cV x.fst x.snd) ∧ true = Option.isSome (cV x.fst x.snd) ∧ True) (∃ (y : Unit), True ∧ (0 : Int) = oI (cV x.fst x.snd) ∧ false = Option.isSome (cV x.fst x.snd) ∧ True))) (bcase i.snd.snd (∃ (y : Unit), True ∧ i.snd.fst = oI (cV x.fst x.snd) ∧ true = Option.isSome (cV x.fst x.snd) ∧ True) (∃ (y : Unit), True ∧ (0 : Int) = oI (cV x.fst x.snd) ∧ false = Option.isSome (cV x.fst x.snd) ∧ True))) (∃ (y : Unit), True ∧ (0 : Int) = oI (cV x.fst x.snd) ∧ false = Option.isSome (cV x.fst x.snd) ∧ True)))) := by kernel_rfl
set_option maxHeartbeats 4000000 in
theorem l25S_ok (n : Nat) (hc : Contract Go.Proofs.Tryd.prog 25 (s_lR n)) : Contract Tryd.prog 25 (s_l25S n) :=
  vcFun_ok (Γ := Γof [(25, 0, (s_lR n)), (46, 0, s_l24Figures), (44, 0, s_l01In)]) (E := Eof []) (ov := false) (L := fun x => Lof ([(12,lL x), (200010,lLJ x)])) Tryd.func25 rfl (by decide) (Γof_ok (l := [(25, 0, (s_lR n)), (46, 0, s_l24Figures), (44, 0, s_l01In)]) ⟨hc, l24Figures_ok, l01In_ok, trivial⟩) fun (x : List Nd × Int) (hx : consP (n + 1) x) => (l25S_vc n x).mpr (by
  have h1 := hx.1; have hl := h1.1; have hn := isNd_iff.1 hx.2.1.1
  obtain ⟨z, hz⟩ : ∃ z, x.1[x.2.toNat]? = some z := ⟨x.1[x.2.toNat], by simp⟩
  simp only [hz, Option.some.injEq, forall_eq', ndAt_of hz]
  (repeat' first | with_reducible rfl | exact True.intro | refine inR_i64 ?_ ?_ | with_reducible refine And.intro ?_ ?_ | with_reducible refine bcase_dec (fun _ => ?_) (fun _ => ?_) | with_reducible refine bcase_bne (fun _ => ?_) (fun _ => ?_) | with_reducible refine bcase_beq (fun _ => ?_) (fun _ => ?_) | with_reducible refine bcase_not (fun _ => ?_) (fun _ => ?_) | refine bcase_intro (fun _ => ?_) (fun _ => ?_) | refine sl_eq ?_ | refine ex_flip () ?_ ?_ | (apply ex_flip6 <;> try dsimp only) | (apply ex_flip5 <;> try dsimp only) | (apply ex_flip4 <;> try dsimp only) | (apply ex_flip3 <;> try dsimp only) | (apply ex_flip2 <;> try dsimp only) | apply ex_flip | (refine Prod.forall.2 ?_; intro _; try dsimp only) | (intro _; try dsimp only))
  all_goals try (have h7 := consP_len hx hz (by assumption))
  all_goals try subst_vars
  all_goals first
    | rfl
    | omega
    | exact h1
    | exact (consP_2 hx hz (by assumption)).1.1
    | exact (consP_2 hx hz (by assumption)).1.2.1
    | exact (consP_2 hx hz (by assumption)).1.2.2
    | (have h2 := consP_2 hx hz (by assumption); rw [h2.2]; by_cases h9 : 9 < z.text.length <;> simp [h9, oI] <;> omega)
    | (have hcc := consP_kid hx hz (memE (by assumption)); exact ⟨h1, hcc.1, hcc.2⟩)
    | (rw [consP_0 hx hz (by assumption) (by assumption) (by assumption)]; rfl)
    | (obtain ⟨c, hk, hv⟩ := consP_11 hx hz (by assumption); have h0 := (show (Nd.kids _)[0]? = some _ by assumption); rw [hk] at h0; cases h0; rw [hv]; done)
    | (obtain ⟨c, hk, hv⟩ := consP_11 hx hz (by assumption); rw [hk]; simp; done)
    | (simp [opOk, *]; done)
    | exact lc_init (by assumption) (consP_kid hx hz (memE (by assumption))).1
    | exact lc_no (by assumption) (by assumption) (by assumption)
    | exact lc_yes (by assumption) (by assumption) (by assumption) (by simp [reck, *])
    | (have hcc := lc_some (by assumption) (by assumption); rw [consP_7 hx hz (by assumption)]; simp [chainV, hcc, oI, *]; done)
    | (have hcc := lc_none (by assumption); rw [consP_7 hx hz (by assumption)]; simp [chainV, hcc, oI, *]; done)
    | (rw [consP_7 hx hz (by assumption)]; simp [chainV, opOk, oI, *]; done)
    | contradiction
    | (have hlc := (show lc _ _ _ _ true by assumption); have hb1 := (hlc.2.2.1 rfl).1; have hb2 := oI_bd (consP_kid hx hz (memE (show z.kids[Int.toNat _]? = some _ by assumption))).1; have hmm := mul_bd hb1.1 hb1.2 hb2.1 hb2.2; unfold bdd at hb1 hb2; (try simp only [i64max]); omega)
    | (have hlc := (show lc _ _ _ _ _ by assumption); have hk2 := (okNds_at hz h1).2; have := hlc.1; have := hlc.2.1; (try simp only [i64max]); omega)
    | skip)

theorem l25_all : ∀ n : Nat, Contract Go.Proofs.Tryd.prog 25 (s_lR n)
  | 0 => l25Z_ok
  | n + 1 => l25S_ok n (l25_all n)
end Go.My
