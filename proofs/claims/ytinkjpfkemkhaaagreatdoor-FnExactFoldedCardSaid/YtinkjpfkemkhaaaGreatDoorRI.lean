/- A part of the proof: the engine and the contracts, joined. -/
import Derived.Test.YtinkjpfkemkhaaaGreatDoorRH
import Derived.Shelf.Strconv.Itoa0
import Derived.Shelf.Strconv.Itoa1
import Derived.Shelf.LaysM
import Derived.Shelf.Strconv.Itoa2
import Derived.Shelf.Strconv.Itoa3
import Derived.Test.YtinkjpfkemkhaaaGreatDoorProg
section
/- A tree put anew behind other nodes, plainly: what the rewriting functions make. -/
set_option linter.unusedVariables false
set_option linter.unusedSimpArgs false
namespace Go.My
open Go.Eng

structure Rw where
  stop : Int → Option Nd
  tgt : Int → Int → Int → Int
  par : Int → Int → Int → Bool
def parNd (o : List Nd) : Nd := ⟨11, [], [(o.length : Int) - 1], false⟩
def put1 (R : Rw) (f : Int → List Nd → List Nd) (k i c : Int) (out : List Nd) : List Nd :=
  if R.par k i c then f (R.tgt k i c) out ++ [parNd (f (R.tgt k i c) out)] else f (R.tgt k i c) out
def putK (R : Rw) (f : Int → List Nd → List Nd) (k : Int) : List Int → Int → List Nd → List Int → List Nd × List Int
  | [], _, out, ks => (out, ks)
  | c :: l, i, out, ks => putK R f k l (i + 1) (put1 R f k i c out) (ks ++ [((put1 R f k i c out).length : Int) - 1])
def putN (ns : List Nd) (R : Rw) : Nat → Int → List Nd → List Nd
  | 0, _, out => out
  | n + 1, k, out => match R.stop k with
    | some x => out ++ [x]
    | none => (putK R (putN ns R n) k (ndAt ns k).kids 0 out []).1 ++ [⟨(ndAt ns k).kind, (ndAt ns k).text, (putK R (putN ns R n) k (ndAt ns k).kids 0 out []).2, (ndAt ns k).blank⟩]
def RwOk (ns : List Nd) (R : Rw) : Prop := ∀ (n : Nat) (k : Int) (i : Nat) (c : Int), okUp ns k → (ndAt ns k).kids[i]? = some c → c < n →
  okUp ns (R.tgt k i c) ∧ R.tgt k i c ≤ c ∧ (vis ns n (R.tgt k i c)).length + (if R.par k i c then 1 else 0) ≤ (vis ns n c).length
theorem putN_bd {ns : List Nd} {R : Rw} (hR : RwOk ns R) : ∀ {n : Nat} {k : Int} {out : List Nd}, okUp ns k → k < n → out.length < (putN ns R n k out).length ∧ (putN ns R n k out).length ≤ out.length + 2 * (vis ns n k).length
  | 0, k, out, h, hk => by have := isNd_iff.1 h.1; omega
  | n + 1, k, out, h, hk => by
    rw [vis_succ, putN]
    cases hs : R.stop k with
    | some x => simp only [List.length_append, List.length_cons, List.length_nil]; omega
    | none =>
      simp only [List.length_append, List.length_cons, List.length_nil]
      have key : ∀ (l : List Int) (i : Nat) (o : List Nd) (ks : List Int), (ndAt ns k).kids.drop i = l → o.length ≤ (putK R (putN ns R n) k l i o ks).1.length ∧ (putK R (putN ns R n) k l i o ks).1.length ≤ o.length + 2 * visK ns n l := by
        intro l
        induction l with
        | nil => intro i o ks _; simp [putK, visK]
        | cons c l ih =>
          intro i o ks hd
          have hc : (ndAt ns k).kids[i]? = some c := by
            have := congrArg (fun l : List Int => l[0]?) hd
            simpa using this
          have hm := okUp_kid h (memE hc)
          obtain ⟨g1, g2, g3⟩ := hR n k i c h hc (by omega)
          obtain ⟨p1, p2⟩ := putN_bd hR (n := n) (k := R.tgt k i c) (out := o) g1 (by omega)
          have hd2 : (ndAt ns k).kids.drop (i + 1) = l := by
            rw [← List.drop_drop, hd]; rfl
          obtain ⟨q1, q2⟩ := ih (i + 1) (put1 R (putN ns R n) k i c o) (ks ++ [((put1 R (putN ns R n) k i c o).length : Int) - 1]) hd2
          have hb : o.length ≤ (put1 R (putN ns R n) k i c o).length ∧ (put1 R (putN ns R n) k i c o).length ≤ o.length + 2 * (vis ns n c).length := by
            unfold put1
            split
            · rename_i hp; rw [if_pos hp] at g3; simp; omega
            · rename_i hp; rw [if_neg hp] at g3; omega
          rw [putK, visK_cons]
          have e : ((i : Int) + 1) = ((i + 1 : Nat) : Int) := by omega
          rw [e]
          omega
      have := key (ndAt ns k).kids 0 out [] (by simp)
      simp only [kidsOf] at this ⊢
      have e : ((0 : Nat) : Int) = 0 := rfl
      rw [e] at this
      omega
/- within a node: after some kids -/
def pk (ns : List Nd) (R : Rw) (n : Nat) (k : Int) (out0 : List Nd) (i : Int) (out : List Nd) (ks : List Int) : Prop :=
  (0 ≤ i ∧ i ≤ (ndAt ns k).kids.length) ∧ putK R (putN ns R n) k ((ndAt ns k).kids.drop i.toNat) i out ks = putK R (putN ns R n) k (ndAt ns k).kids 0 out0 [] ∧
    out.length + 2 * visK ns n ((ndAt ns k).kids.drop i.toNat) ≤ out0.length + 2 * visK ns n (ndAt ns k).kids ∧ out0.length ≤ out.length ∧ ks.length = i
theorem pk_init {ns : List Nd} {R : Rw} {n : Nat} {k : Int} {out0 : List Nd} : pk ns R n k out0 0 out0 [] := ⟨⟨by omega, by omega⟩, by simp, by simp, Nat.le_refl _, rfl⟩
theorem pk_next {ns : List Nd} {R : Rw} (hR : RwOk ns R) {n : Nat} {k : Int} {out0 : List Nd} {i c : Int} {out : List Nd} {ks : List Int} (h : pk ns R n k out0 i out ks) (hu : okUp ns k) (hk : k < n + 1)
    (hc : (ndAt ns k).kids[i.toNat]? = some c) : pk ns R n k out0 (i + 1) (put1 R (putN ns R n) k i c out) (ks ++ [((put1 R (putN ns R n) k i c out).length : Int) - 1]) := by
  obtain ⟨⟨h0, h1⟩, h2, h3, h4, h5⟩ := h
  have hlt := (getE hc).1
  have hm := okUp_kid hu (memE hc)
  obtain ⟨g1, g2, g3⟩ := hR n k i.toNat c hu hc (by omega)
  have e : ((i.toNat : Nat) : Int) = i := by omega
  rw [e] at g1 g2 g3
  obtain ⟨p1, p2⟩ := putN_bd hR (n := n) (k := R.tgt k i c) (out := out) g1 (by omega)
  have hb : out.length ≤ (put1 R (putN ns R n) k i c out).length ∧ (put1 R (putN ns R n) k i c out).length ≤ out.length + 2 * (vis ns n c).length := by
    unfold put1
    split
    · rename_i hp; rw [if_pos hp] at g3; simp; omega
    · rename_i hp; rw [if_neg hp] at g3; omega
  refine ⟨⟨by omega, by omega⟩, ?_, ?_, by omega, by simp; omega⟩
  · rw [← h2, dropE hc, toNat1 h0]; rfl
  · rw [dropE hc, visK_cons] at h3
    rw [toNat1 h0]; omega
theorem pk_done {ns : List Nd} {R : Rw} {n : Nat} {k : Int} {out0 : List Nd} {i : Int} {out : List Nd} {ks : List Int} (h : pk ns R n k out0 i out ks) (hl : ¬ i < (ndAt ns k).kids.length) (hs : R.stop k = none) :
    out ++ [⟨(ndAt ns k).kind, (ndAt ns k).text, ks, (ndAt ns k).blank⟩] = putN ns R (n + 1) k out0 := by
  obtain ⟨⟨h0, h1⟩, h2, _⟩ := h
  rw [List.drop_eq_nil_of_le (by omega), putK] at h2
  rw [putN, hs]
  simp only
  rw [← h2]
/- the place for what is asked of a kid -/
theorem pk_pre {ns : List Nd} {R : Rw} (hR : RwOk ns R) {n : Nat} {k : Int} {out0 : List Nd} {i c : Int} {out : List Nd} {ks : List Int} (h : pk ns R n k out0 i out ks) (hu : okUp ns k) (hk : k < n + 1)
    (hc : (ndAt ns k).kids[i.toNat]? = some c) {B : Nat} (hB : out0.length + 2 * (vis ns (n + 1) k).length ≤ B) :
    okUp ns (R.tgt k i c) ∧ R.tgt k i c < n ∧ out.length + 2 * (vis ns n (R.tgt k i c)).length ≤ B := by
  obtain ⟨⟨h0, h1⟩, h2, h3, h4, h5⟩ := h
  have hlt := (getE hc).1
  have hm := okUp_kid hu (memE hc)
  obtain ⟨g1, g2, g3⟩ := hR n k i.toNat c hu hc (by omega)
  have e : ((i.toNat : Nat) : Int) = i := by omega
  rw [e] at g1 g2 g3
  refine ⟨g1, by omega, ?_⟩
  rw [dropE hc, visK_cons] at h3
  rw [vis_succ] at hB
  simp only [kidsOf] at hB
  omega
theorem pk_bd {ns : List Nd} {R : Rw} {n : Nat} {k : Int} {out0 : List Nd} {i : Int} {out : List Nd} {ks : List Int} (h : pk ns R n k out0 i out ks) {B : Nat} (hB : out0.length + 2 * (vis ns (n + 1) k).length ≤ B) :
    (0 ≤ i ∧ i ≤ (ndAt ns k).kids.length) ∧ out.length + 2 ≤ B ∧ ks.length = i := by
  obtain ⟨h0, h2, h3, h4, h5⟩ := h
  rw [vis_succ] at hB
  simp only [kidsOf] at hB
  exact ⟨h0, by omega, h5⟩
end Go.My
end
section
/- Brackets that are spared, plainly. -/
set_option linter.unusedVariables false
set_option linter.unusedSimpArgs false
namespace Go.My
open Go.Eng

theorem vis_eq {ns : List Nd} : ∀ {n m : Nat} {k : Int}, okUp ns k → k < n → k < m → vis ns n k = vis ns m k
  | 0, m, k, h, h1, _ => by have := isNd_iff.1 h.1; omega
  | n + 1, 0, k, h, _, h1 => by have := isNd_iff.1 h.1; omega
  | n + 1, m + 1, k, h, h1, h2 => by
    rw [vis, vis]
    congr 1
    have : ∀ l : List Int, (∀ c ∈ l, c ∈ (ndAt ns k).kids) → l.flatMap (vis ns n) = l.flatMap (vis ns m) := by
      intro l
      induction l with
      | nil => intro _; rfl
      | cons c l ih =>
        intro hl
        have hm := okUp_kid h (hl c (by simp))
        rw [List.flatMap_cons, List.flatMap_cons, vis_eq hm.1 (n := n) (m := m) (by omega) (by omega), ih (fun d hd => hl d (by simp [hd]))]
    exact this _ (fun c hc => hc)
def bareF (ns : List Nd) : Nat → Int → Int
  | 0, k => k
  | n + 1, k => if (ndAt ns k).kind = 11 then bareF ns n ((ndAt ns k).kids.headD 0) else k
def bare (ns : List Nd) (k : Int) : Int := bareF ns (k.toNat + 1) k
theorem bareF_eq {ns : List Nd} : ∀ {n m : Nat} {k : Int}, okUp ns k → k < n → k < m → bareF ns n k = bareF ns m k
  | 0, m, k, h, h1, _ => by have := isNd_iff.1 h.1; omega
  | n + 1, 0, k, h, _, h1 => by have := isNd_iff.1 h.1; omega
  | n + 1, m + 1, k, h, h1, h2 => by
    simp only [bareF]
    by_cases e : (ndAt ns k).kind = 11
    · rw [if_pos e, if_pos e]
      obtain ⟨c, hc⟩ := okUp11 h e
      have hm := okUp_kid h (c := c) (by rw [hc]; simp)
      rw [hc]; exact bareF_eq hm.1 (by simp; omega) (by simp; omega)
    · rw [if_neg e, if_neg e]
theorem bare_11 {ns : List Nd} {k c : Int} (h : okUp ns k) (e : (ndAt ns k).kind = 11) (hc : (ndAt ns k).kids = [c]) : bare ns k = bare ns c := by
  have hm := okUp_kid h (c := c) (by rw [hc]; simp)
  have hr := isNd_iff.1 h.1
  rw [bare, bareF, if_pos e, hc]
  exact bareF_eq hm.1 (by simp; omega) (by simp; omega)
theorem bare_ne {ns : List Nd} {k : Int} (e : (ndAt ns k).kind ≠ 11) : bare ns k = k := by rw [bare, bareF, if_neg e]
theorem bare_ok {ns : List Nd} : ∀ (m : Nat) {k : Int}, k < m → okUp ns k → okUp ns (bare ns k) ∧ bare ns k ≤ k ∧ (kindAt ns (bare ns k) ≠ 11) ∧
    (∀ n : Nat, k < n → (vis ns n (bare ns k)).length + (if (ndAt ns k).kind = 11 then 1 else 0) ≤ (vis ns n k).length) ∧ ((ndAt ns k).kind = 11 → bare ns k < k)
  | 0, k, hm, h => by have := isNd_iff.1 h.1; omega
  | m + 1, k, hm, h => by
    have hr := isNd_iff.1 h.1
    by_cases e : (ndAt ns k).kind = 11
    · obtain ⟨c, hc⟩ := okUp11 h e
      have hk := okUp_kid h (c := c) (by rw [hc]; simp)
      obtain ⟨g1, g2, g3, g4, g5⟩ := bare_ok m (k := c) (by omega) hk.1
      rw [bare_11 h e hc]
      refine ⟨g1, by omega, g3, fun n hn => ?_, fun _ => by omega⟩
      rw [if_pos e]
      cases n with
      | zero => omega
      | succ n =>
        have hv : (vis ns (n + 1) k).length = 1 + (vis ns n c).length := by
          rw [vis_succ, visK, kidsOf, hc]; simp
        rw [hv]
        have h1 := g4 (n + 1) (by omega)
        rw [vis_eq hk.1 (n := n + 1) (m := n) (by omega) (by omega)] at h1
        split at h1 <;> omega
    · rw [bare_ne e]
      exact ⟨h, Int.le_refl _, e, fun n hn => by rw [if_neg e]; exact Nat.le_refl _, fun h => (e h).elim⟩
/- how tight -/
def clvl (t : List UInt8) : Int := if t = [124, 124] then 2 else if t = [38, 38] then 3 else if t = [61, 61] then 4 else if t = [60] then 5 else if t = [43] ∨ t = [45] then 6 else 7
def lvl (x : Nd) : Int := if x.kind = 10 then 0 else if x.kind = 8 ∨ x.kind = 9 then 1 else if x.kind = 7 then clvl x.text else 8
def isSwp (x y : Nd) : Bool := decide (x.kind = 7) && (decide (y.kind = 7) && ((x.text == [43] && y.text == [45]) || (x.text == [45] && y.text == [43])))
def wantsB (x : Nd) (i : Int) (y : Nd) : Bool :=
  if x.kind = 5 then decide (i = 0) && decide (lvl y < 8)
  else if x.kind = 6 then decide (lvl y < 8)
  else if x.kind = 7 then decide (lvl y ≤ clvl x.text) && !(decide (i = 0) && isSwp x y)
  else if x.kind = 8 then (if i = 0 then decide (lvl y < 2) else decide (lvl y < 1))
  else if x.kind = 9 then decide (i = x.kids.length - 1) && decide (lvl y < 1)
  else if x.kind = 10 then decide (i = 0) && decide (lvl y < 1)
  else false
def chOk (x : Nd) : Prop := x.kind = 7 → chainOk x.text = true
theorem chOk_of {ns : List Nd} {k : Int} (h : okUp ns k) : chOk (ndAt ns k) := by
  intro e
  have := (nodeOk_parts (okUp_at h)).2.2.1
  rw [e] at this
  simpa [textOk] using this
theorem chain_cases {t : List UInt8} (h : chainOk t = true) : t = [38, 38] ∨ t = [124, 124] ∨ t = [61, 61] ∨ t = [60] ∨ t = [43] ∨ t = [45] ∨ t = [42] := by
  simpa [chainOk] using h
def rSp (ns : List Nd) : Rw := ⟨fun _ => none, fun _ _ c => bare ns c, fun k i c => decide (kindAt ns c = 11) && wantsB (ndAt ns k) i (ndAt ns (bare ns c))⟩
theorem rSp_ok {ns : List Nd} : RwOk ns (rSp ns) := by
  intro n k i c hu hc hn
  have hm := okUp_kid hu (memE hc)
  obtain ⟨g1, g2, g3, g4, g5⟩ := bare_ok (c.toNat + 1) (k := c) (by omega) hm.1
  refine ⟨g1, g2, ?_⟩
  have h4 := g4 n hn
  by_cases hp : (rSp ns).par k i c = true
  · rw [if_pos hp]
    have e : (ndAt ns c).kind = 11 := by
      simp only [rSp, Bool.and_eq_true, decide_eq_true_eq] at hp; exact hp.1
    rw [if_pos e] at h4; exact h4
  · rw [if_neg hp]
    have : (rSp ns).tgt k i c = bare ns c := rfl
    rw [this]; omega
end Go.My
end
section
/- Brackets that are spared: the functions. -/
set_option linter.unusedVariables false
set_option linter.unusedSimpArgs false
namespace Go.My
open Go.Eng Go.Proofs
variable {G : GInv}

def s_chainLevel  : Sig := { X := List UInt8, args := fun x => [.str x], pre := fun x => True, Y := Unit, post := fun x y => True, res := fun x y => .int .i64 (clvl x), outs := fun x y => [.top], keep := false }
theorem chainLevel_vc (x : List UInt8) : vcFun Go.Proofs.Tryz.prog (Γof []) (Eof []) false (Lof ([])) Go.Proofs.Tryz.f113.ntmps Go.Proofs.Tryz.f113.results.toList (Go.Proofs.Tryz.f113.body.getD .skip) s_chainLevel x = ((∀ (y : Unit), True → True ∧ True ∧ True) ∧ bcase (x == #[(124 : UInt8), (124 : UInt8)].toList) (∃ (y : Unit), True ∧ (2 : Int) = clvl x ∧ True) (bcase (x == #[(38 : UInt8), (38 : UInt8)].toList) (∃ (y : Unit), True ∧ (3 : Int) = clvl x ∧ True) (bcase (x == #[(61 : UInt8), (61 : UInt8)].toList) (∃ (y : Unit), True ∧ (4 : Int) = clvl x ∧ True) (bcase (x == #[(60 : UInt8)].toList) (∃ (y : Unit), True ∧ (5 : Int) = clvl x ∧ True) (bcase (x == #[(43 : UInt8)].toList) (∃ (y : Unit), True ∧ (6 : Int) = clvl x ∧ True) (bcase (x == #[(45 : UInt8)].toList) (∃ (y : Unit), True ∧ (6 : Int) = clvl x ∧ True) (∃ (y : Unit), True ∧ (7 : Int) = clvl x ∧ True))))))) := by kernel_rfl
theorem chainLevel_ok  : Contract G Tryz.prog 113 s_chainLevel :=
  vcFun_ok (Γ := Γof []) (E := Eof []) (ov := false) (L := fun x => Lof ([])) Tryz.func113 rfl (by decide) (Γof_ok (l := []) trivial) fun (x : List UInt8) (hx : True) => (chainLevel_vc  x).mpr (by
  (repeat' first | with_reducible rfl | exact True.intro | refine inR_i64 ?_ ?_ | with_reducible refine And.intro ?_ ?_ | with_reducible refine bcase_dec (fun _ => ?_) (fun _ => ?_) | with_reducible refine bcase_bne (fun _ => ?_) (fun _ => ?_) | with_reducible refine bcase_beq (fun _ => ?_) (fun _ => ?_) | with_reducible refine bcase_not (fun _ => ?_) (fun _ => ?_) | refine bcase_intro (fun _ => ?_) (fun _ => ?_) | refine sl_eq ?_ | refine ex_flip () ?_ ?_ | (apply ex_flip6 <;> try dsimp only) | (apply ex_flip5 <;> try dsimp only) | (apply ex_flip4 <;> try dsimp only) | (apply ex_flip3 <;> try dsimp only) | (apply ex_flip2 <;> try dsimp only) | apply ex_flip | (refine Prod.forall.2 ?_; intro _; try dsimp only) | (intro _; try dsimp only)) <;> (try dsimp only at *) <;> (try simp only [i64max, List.length_cons, List.length_nil]) <;> (try omega)
  all_goals simp [clvl, *])

def s_levelOf  : Sig := { X := Nd, args := fun x => [.agg (ndA false x)], pre := fun x => True, Y := Unit, post := fun x y => True, res := fun x y => .int .i64 (lvl x), outs := fun x y => [.top], keep := false }
theorem levelOf_vc (x : Nd) : vcFun Go.Proofs.Tryz.prog (Γof [(113, 0, s_chainLevel)]) (Eof []) false (Lof ([])) Go.Proofs.Tryz.f112.ntmps Go.Proofs.Tryz.f112.results.toList (Go.Proofs.Tryz.f112.body.getD .skip) s_levelOf x = ((∀ (y : Unit), True → True ∧ True ∧ True) ∧ bcase (x.kind == (10 : Int)) (∃ (y : Unit), True ∧ (0 : Int) = lvl x ∧ True) (bcase (x.kind == (8 : Int)) (∃ (y : Unit), True ∧ (1 : Int) = lvl x ∧ True) (bcase (x.kind == (9 : Int)) (∃ (y : Unit), True ∧ (1 : Int) = lvl x ∧ True) (bcase (x.kind == (7 : Int)) (∃ (x_1 : List UInt8), True ∧ x.text = x_1 ∧ ∀ (y : Unit), True → ∃ (y : Unit), True ∧ clvl x_1 = lvl x ∧ True) (∃ (y : Unit), True ∧ (8 : Int) = lvl x ∧ True))))) := by kernel_rfl
theorem levelOf_ok  : Contract G Tryz.prog 112 s_levelOf :=
  vcFun_ok (Γ := Γof [(113, 0, s_chainLevel)]) (E := Eof []) (ov := false) (L := fun x => Lof ([])) Tryz.func112 rfl (by decide) (Γof_ok (l := [(113, 0, s_chainLevel)]) ⟨chainLevel_ok, trivial⟩) fun (x : Nd) (hx : True) => (levelOf_vc  x).mpr (by
  (repeat' first | with_reducible rfl | exact True.intro | refine inR_i64 ?_ ?_ | with_reducible refine And.intro ?_ ?_ | with_reducible refine bcase_dec (fun _ => ?_) (fun _ => ?_) | with_reducible refine bcase_bne (fun _ => ?_) (fun _ => ?_) | with_reducible refine bcase_beq (fun _ => ?_) (fun _ => ?_) | with_reducible refine bcase_not (fun _ => ?_) (fun _ => ?_) | refine bcase_intro (fun _ => ?_) (fun _ => ?_) | refine sl_eq ?_ | refine ex_flip () ?_ ?_ | (apply ex_flip6 <;> try dsimp only) | (apply ex_flip5 <;> try dsimp only) | (apply ex_flip4 <;> try dsimp only) | (apply ex_flip3 <;> try dsimp only) | (apply ex_flip2 <;> try dsimp only) | apply ex_flip | (refine Prod.forall.2 ?_; intro _; try dsimp only) | (intro _; try dsimp only)) <;> (try dsimp only at *) <;> (try simp only [i64max, List.length_cons, List.length_nil]) <;> (try omega)
  all_goals simp [lvl, *])

def s_isSwap  : Sig := { X := Nd × Nd, args := fun x => [.agg (ndA false x.1), .agg (ndA false x.2)], pre := fun x => True, Y := Unit, post := fun x y => True, res := fun x y => .bool (isSwp x.1 x.2), outs := fun x y => [.top, .top], keep := false }
theorem isSwap_vc (x : Nd × Nd) : vcFun Go.Proofs.Tryz.prog (Γof []) (Eof []) false (Lof ([])) Go.Proofs.Tryz.f114.ntmps Go.Proofs.Tryz.f114.results.toList (Go.Proofs.Tryz.f114.body.getD .skip) s_isSwap x = ((∀ (y : Unit), True → True ∧ True ∧ True ∧ True) ∧ bcase (x.fst.kind != (7 : Int)) (∃ (y : Unit), True ∧ false = isSwp x.fst x.snd ∧ True) (bcase (x.snd.kind != (7 : Int)) (∃ (y : Unit), True ∧ false = isSwp x.fst x.snd ∧ True) (bcase (x.fst.text == #[(43 : UInt8)].toList) (bcase (x.snd.text == #[(45 : UInt8)].toList) (∃ (y : Unit), True ∧ true = isSwp x.fst x.snd ∧ True) (bcase (x.fst.text == #[(45 : UInt8)].toList) (∃ (y : Unit), True ∧ (x.snd.text == #[(43 : UInt8)].toList) = isSwp x.fst x.snd ∧ True) (∃ (y : Unit), True ∧ false = isSwp x.fst x.snd ∧ True))) (bcase (x.fst.text == #[(45 : UInt8)].toList) (∃ (y : Unit), True ∧ (x.snd.text == #[(43 : UInt8)].toList) = isSwp x.fst x.snd ∧ True) (∃ (y : Unit), True ∧ false = isSwp x.fst x.snd ∧ True))))) := by kernel_rfl
theorem isSwap_ok  : Contract G Tryz.prog 114 s_isSwap :=
  vcFun_ok (Γ := Γof []) (E := Eof []) (ov := false) (L := fun x => Lof ([])) Tryz.func114 rfl (by decide) (Γof_ok (l := []) trivial) fun (x : Nd × Nd) (hx : True) => (isSwap_vc  x).mpr (by
  (repeat' first | with_reducible rfl | exact True.intro | refine inR_i64 ?_ ?_ | with_reducible refine And.intro ?_ ?_ | with_reducible refine bcase_dec (fun _ => ?_) (fun _ => ?_) | with_reducible refine bcase_bne (fun _ => ?_) (fun _ => ?_) | with_reducible refine bcase_beq (fun _ => ?_) (fun _ => ?_) | with_reducible refine bcase_not (fun _ => ?_) (fun _ => ?_) | refine bcase_intro (fun _ => ?_) (fun _ => ?_) | refine sl_eq ?_ | refine ex_flip () ?_ ?_ | (apply ex_flip6 <;> try dsimp only) | (apply ex_flip5 <;> try dsimp only) | (apply ex_flip4 <;> try dsimp only) | (apply ex_flip3 <;> try dsimp only) | (apply ex_flip2 <;> try dsimp only) | apply ex_flip | (refine Prod.forall.2 ?_; intro _; try dsimp only) | (intro _; try dsimp only)) <;> (try dsimp only at *) <;> (try simp only [i64max, List.length_cons, List.length_nil]) <;> (try omega)
  all_goals first | (simp [isSwp, *]; done) | simp_all [isSwp])

def s_wants  : Sig := { X := Nd × Int × Nd, args := fun x => [.agg (ndA false x.1), .int .i64 x.2.1, .agg (ndA false x.2.2)], pre := fun x => x.1.kids.length < 2 ^ 62, Y := Unit, post := fun x y => True, res := fun x y => .bool (wantsB x.1 x.2.1 x.2.2), outs := fun x y => [.top, .top, .top], keep := false }
theorem wants_vc (x : Nd × Int × Nd) : vcFun Go.Proofs.Tryz.prog (Γof [(112, 0, s_levelOf), (113, 0, s_chainLevel), (114, 0, s_isSwap)]) (Eof []) false (Lof ([])) Go.Proofs.Tryz.f56.ntmps Go.Proofs.Tryz.f56.results.toList (Go.Proofs.Tryz.f56.body.getD .skip) s_wants x = ((∀ (y : Unit), True → True ∧ True ∧ True ∧ True ∧ True) ∧ ∃ (x_1 : Nd), True ∧ x.snd.snd.kind = x_1.kind ∧ x.snd.snd.text = x_1.text ∧ AV.sl false (0 : Nat) (1 : Nat) Int intA x.snd.snd.kids = AV.sl false (0 : Nat) (1 : Nat) Int intA x_1.kids ∧ x.snd.snd.blank = x_1.blank ∧ ∀ (y : Unit), True → bcase (x.fst.kind == (5 : Int)) (bcase (x.snd.fst == (0 : Int)) (∃ (y : Unit), True ∧ decide (lvl x_1 < (8 : Int)) = wantsB x.fst x.snd.fst x.snd.snd ∧ True) (∃ (y : Unit), True ∧ false = wantsB x.fst x.snd.fst x.snd.snd ∧ True)) (bcase (x.fst.kind == (6 : Int)) (∃ (y : Unit), True ∧ decide (lvl x_1 < (8 : Int)) = wantsB x.fst x.snd.fst x.snd.snd ∧ True) (bcase (x.fst.kind == (7 : Int)) (∃ (x_2 : List UInt8), True ∧ x.fst.text = x_2 ∧ ∀ (y : Unit), True → bcase (decide (lvl x_1 ≤ clvl x_2)) (bcase (x.snd.fst == (0 : Int)) (∃ (x_3 : Nd × Nd), True ∧ x.fst.kind = x_3.fst.kind ∧ x.fst.text = x_3.fst.text ∧ AV.sl false (0 : Nat) (1 : Nat) Int intA x.fst.kids = AV.sl false (0 : Nat) (1 : Nat) Int intA x_3.fst.kids ∧ x.fst.blank = x_3.fst.blank ∧ x.snd.snd.kind = x_3.snd.kind ∧ x.snd.snd.text = x_3.snd.text ∧ AV.sl false (0 : Nat) (1 : Nat) Int intA x.snd.snd.kids = AV.sl false (0 : Nat) (1 : Nat) Int intA x_3.snd.kids ∧ x.snd.snd.blank = x_3.snd.blank ∧ ∀ (y : Unit), True → ∃ (y : Unit), True ∧ (!isSwp x_3.fst x_3.snd) = wantsB x.fst x.snd.fst x.snd.snd ∧ True) (∃ (y : Unit), True ∧ true = wantsB x.fst x.snd.fst x.snd.snd ∧ True)) (∃ (y : Unit), True ∧ false = wantsB x.fst x.snd.fst x.snd.snd ∧ True)) (bcase (x.fst.kind == (8 : Int)) (bcase (x.snd.fst == (0 : Int)) (∃ (y : Unit), True ∧ decide (lvl x_1 < (2 : Int)) = wantsB x.fst x.snd.fst x.snd.snd ∧ True) (∃ (y : Unit), True ∧ decide (lvl x_1 < (1 : Int)) = wantsB x.fst x.snd.fst x.snd.snd ∧ True)) (bcase (x.fst.kind == (9 : Int)) (inR IntKind.i64 ((↑(List.length x.fst.kids) : Int) - (1 : Int)) ∧ bcase (x.snd.fst == (↑(List.length x.fst.kids) : Int) - (1 : Int)) (∃ (y : Unit), True ∧ decide (lvl x_1 < (1 : Int)) = wantsB x.fst x.snd.fst x.snd.snd ∧ True) (∃ (y : Unit), True ∧ false = wantsB x.fst x.snd.fst x.snd.snd ∧ True)) (bcase (x.fst.kind == (10 : Int)) (bcase (x.snd.fst == (0 : Int)) (∃ (y : Unit), True ∧ decide (lvl x_1 < (1 : Int)) = wantsB x.fst x.snd.fst x.snd.snd ∧ True) (∃ (y : Unit), True ∧ false = wantsB x.fst x.snd.fst x.snd.snd ∧ True)) (∃ (y : Unit), True ∧ false = wantsB x.fst x.snd.fst x.snd.snd ∧ True))))))) := by kernel_rfl
theorem wants_ok  : Contract G Tryz.prog 56 s_wants :=
  vcFun_ok (Γ := Γof [(112, 0, s_levelOf), (113, 0, s_chainLevel), (114, 0, s_isSwap)]) (E := Eof []) (ov := false) (L := fun x => Lof ([])) Tryz.func56 rfl (by decide) (Γof_ok (l := [(112, 0, s_levelOf), (113, 0, s_chainLevel), (114, 0, s_isSwap)]) ⟨levelOf_ok, chainLevel_ok, isSwap_ok, trivial⟩) fun (x : Nd × Int × Nd) (hx : x.1.kids.length < 2 ^ 62) => (wants_vc  x).mpr (by
  have hx : x.1.kids.length < 2 ^ 62 := hx
  (repeat' first | with_reducible rfl | exact True.intro | refine inR_i64 ?_ ?_ | with_reducible refine And.intro ?_ ?_ | with_reducible refine bcase_dec (fun _ => ?_) (fun _ => ?_) | with_reducible refine bcase_bne (fun _ => ?_) (fun _ => ?_) | with_reducible refine bcase_beq (fun _ => ?_) (fun _ => ?_) | with_reducible refine bcase_not (fun _ => ?_) (fun _ => ?_) | refine bcase_intro (fun _ => ?_) (fun _ => ?_) | refine sl_eq ?_ | refine ex_flip () ?_ ?_ | (apply ex_flip6 <;> try dsimp only) | (apply ex_flip5 <;> try dsimp only) | (apply ex_flip4 <;> try dsimp only) | (apply ex_flip3 <;> try dsimp only) | (apply ex_flip2 <;> try dsimp only) | apply ex_flip | (refine Prod.forall.2 ?_; intro _; try dsimp only) | (intro _; try dsimp only)) <;> (try dsimp only at *) <;> (try simp only [i64max, List.length_cons, List.length_nil]) <;> (try omega)
  all_goals simp [wantsB, *])

def s_l23Level  : Sig := { X := Nd, args := fun x => [.agg (ndA false x)], pre := fun x => chOk x, Y := Unit, post := fun x y => True, res := fun x y => .int .i64 (lvl x), outs := fun x y => [.top], keep := false }
theorem l23Level_vc (x : Nd) : vcFun Go.Proofs.Tryz.prog (Γof []) (Eof []) false (Lof ([])) Go.Proofs.Tryz.f155.ntmps Go.Proofs.Tryz.f155.results.toList (Go.Proofs.Tryz.f155.body.getD .skip) s_l23Level x = ((∀ (y : Unit), True → True ∧ True ∧ True) ∧ bcase (x.kind == (10 : Int)) (∃ (y : Unit), True ∧ (0 : Int) = lvl x ∧ True) (bcase (x.kind == (8 : Int)) (∃ (y : Unit), True ∧ (1 : Int) = lvl x ∧ True) (bcase (x.kind == (9 : Int)) (∃ (y : Unit), True ∧ (1 : Int) = lvl x ∧ True) (bcase (x.kind == (7 : Int)) (bcase (x.text == #[(124 : UInt8), (124 : UInt8)].toList) (∃ (y : Unit), True ∧ (2 : Int) = lvl x ∧ True) (bcase (x.text == #[(38 : UInt8), (38 : UInt8)].toList) (∃ (y : Unit), True ∧ (3 : Int) = lvl x ∧ True) (bcase (x.text == #[(61 : UInt8), (61 : UInt8)].toList) (∃ (y : Unit), True ∧ (4 : Int) = lvl x ∧ True) (bcase (x.text == #[(60 : UInt8)].toList) (∃ (y : Unit), True ∧ (5 : Int) = lvl x ∧ True) (bcase (x.text == #[(42 : UInt8)].toList) (∃ (y : Unit), True ∧ (7 : Int) = lvl x ∧ True) (∃ (y : Unit), True ∧ (6 : Int) = lvl x ∧ True)))))) (∃ (y : Unit), True ∧ (8 : Int) = lvl x ∧ True))))) := by kernel_rfl
theorem l23Level_ok  : Contract G Tryz.prog 155 s_l23Level :=
  vcFun_ok (Γ := Γof []) (E := Eof []) (ov := false) (L := fun x => Lof ([])) Tryz.func155 rfl (by decide) (Γof_ok (l := []) trivial) fun (x : Nd) (hx : chOk x) => (l23Level_vc  x).mpr (by
  have hx : chOk x := hx
  (repeat' first | with_reducible rfl | exact True.intro | refine inR_i64 ?_ ?_ | with_reducible refine And.intro ?_ ?_ | with_reducible refine bcase_dec (fun _ => ?_) (fun _ => ?_) | with_reducible refine bcase_bne (fun _ => ?_) (fun _ => ?_) | with_reducible refine bcase_beq (fun _ => ?_) (fun _ => ?_) | with_reducible refine bcase_not (fun _ => ?_) (fun _ => ?_) | refine bcase_intro (fun _ => ?_) (fun _ => ?_) | refine sl_eq ?_ | refine ex_flip () ?_ ?_ | (apply ex_flip6 <;> try dsimp only) | (apply ex_flip5 <;> try dsimp only) | (apply ex_flip4 <;> try dsimp only) | (apply ex_flip3 <;> try dsimp only) | (apply ex_flip2 <;> try dsimp only) | apply ex_flip | (refine Prod.forall.2 ?_; intro _; try dsimp only) | (intro _; try dsimp only))
  all_goals first
    | (simp [lvl, clvl, *]; done)
    | (rcases chain_cases (hx (by assumption)) with h | h | h | h | h | h | h <;> simp_all [lvl, clvl]))

theorem swp_eq {x y : Nd} (hx : x.kind = 7) (h3 : chOk x) (h4 : chOk y) : isSwp x y = (decide (y.kind = 7) && (!(y.text == x.text) && (decide (lvl y = 6) && decide (lvl x = 6)))) := by
  by_cases hy : y.kind = 7
  · have h5 := chain_cases (h3 hx); have h6 := chain_cases (h4 hy)
    have e1 : lvl x = clvl x.text := by simp [lvl, hx]
    have e2 : lvl y = clvl y.text := by simp [lvl, hy]
    rw [e1, e2]
    unfold isSwp
    generalize x.text = s at h5 ⊢; generalize y.text = t at h6 ⊢
    rw [hx, hy]
    rcases h5 with rfl | rfl | rfl | rfl | rfl | rfl | rfl <;> rcases h6 with rfl | rfl | rfl | rfl | rfl | rfl | rfl <;> rfl
  · simp [isSwp, hy]
theorem wants7 {x y : Nd} {i : Int} (hx : x.kind = 7) (h3 : chOk x) (h4 : chOk y) : wantsB x i y = (decide (lvl y ≤ lvl x) && !(decide (i = 0) && (decide (y.kind = 7) && (!(y.text == x.text) && (decide (lvl y = 6) && decide (lvl x = 6)))))) := by
  have e1 : lvl x = clvl x.text := by simp [lvl, hx]
  rw [← swp_eq hx h3 h4, e1]
  simp [wantsB, hx]
theorem w7a {x y : Nd} {i : Int} (hx : x.kind = 7) (h3 : chOk x) (h4 : chOk y) (hi : i = 0) (hy : y.kind = 7) (ht : (y.text == x.text) = false) (hl : lvl y = 6) (hle : lvl y ≤ lvl x) : (!(lvl x == 6)) = wantsB x i y := by
  rw [wants7 hx h3 h4, decide_eq_true hle, decide_eq_true hi, decide_eq_true hy, ht, decide_eq_true hl, beqI]
  cases decide (lvl x = 6) <;> rfl
theorem w7b {x y : Nd} {i : Int} (hx : x.kind = 7) (h3 : chOk x) (h4 : chOk y) (hle : ¬ lvl y ≤ lvl x) : false = wantsB x i y := by
  rw [wants7 hx h3 h4, decide_eq_false hle]; rfl
def s_l23Wants  : Sig := { X := Nd × Int × Nd, args := fun x => [.agg (ndA false x.1), .int .i64 x.2.1, .agg (ndA false x.2.2)], pre := fun x => x.1.kids.length < 2 ^ 62 ∧ (0 ≤ x.2.1 ∧ x.2.1 < x.1.kids.length) ∧ chOk x.1 ∧ chOk x.2.2, Y := Unit, post := fun x y => True, res := fun x y => .bool (wantsB x.1 x.2.1 x.2.2), outs := fun x y => [.top, .top, .top], keep := false }
theorem l23Wants_vc (x : Nd × Int × Nd) : vcFun Go.Proofs.Tryz.prog (Γof [(155, 0, s_l23Level)]) (Eof []) false (Lof ([])) Go.Proofs.Tryz.f109.ntmps Go.Proofs.Tryz.f109.results.toList (Go.Proofs.Tryz.f109.body.getD .skip) s_l23Wants x = ((∀ (y : Unit), True → True ∧ True ∧ True ∧ True ∧ True) ∧ ∃ (x_1 : Nd), chOk x_1 ∧ x.snd.snd.kind = x_1.kind ∧ x.snd.snd.text = x_1.text ∧ AV.sl false (0 : Nat) (1 : Nat) Int intA x.snd.snd.kids = AV.sl false (0 : Nat) (1 : Nat) Int intA x_1.kids ∧ x.snd.snd.blank = x_1.blank ∧ ∀ (y : Unit), True → bcase (x.fst.kind == (5 : Int)) (bcase (x.snd.fst == (0 : Int)) (∃ (y : Unit), True ∧ decide (lvl x_1 < (8 : Int)) = wantsB x.fst x.snd.fst x.snd.snd ∧ True) (∃ (y : Unit), True ∧ false = wantsB x.fst x.snd.fst x.snd.snd ∧ True)) (bcase (x.fst.kind == (6 : Int)) (∃ (y : Unit), True ∧ decide (lvl x_1 < (8 : Int)) = wantsB x.fst x.snd.fst x.snd.snd ∧ True) (bcase (x.fst.kind == (7 : Int)) (bcase (x.snd.fst == (0 : Int)) (bcase (x.snd.snd.kind == (7 : Int)) (bcase (!x.snd.snd.text == x.fst.text) (bcase (lvl x_1 == (6 : Int)) (∃ (x_2 : Nd), chOk x_2 ∧ x.fst.kind = x_2.kind ∧ x.fst.text = x_2.text ∧ AV.sl false (0 : Nat) (1 : Nat) Int intA x.fst.kids = AV.sl false (0 : Nat) (1 : Nat) Int intA x_2.kids ∧ x.fst.blank = x_2.blank ∧ ∀ (y : Unit), True → ∃ (x_3 : Nd), chOk x_3 ∧ x.fst.kind = x_3.kind ∧ x.fst.text = x_3.text ∧ AV.sl false (0 : Nat) (1 : Nat) Int intA x.fst.kids = AV.sl false (0 : Nat) (1 : Nat) Int intA x_3.kids ∧ x.fst.blank = x_3.blank ∧ ∀ (y : Unit), True → bcase (decide (lvl x_1 ≤ lvl x_3)) (∃ (y : Unit), True ∧ (!lvl x_2 == (6 : Int)) = wantsB x.fst x.snd.fst x.snd.snd ∧ True) (∃ (y : Unit), True ∧ false = wantsB x.fst x.snd.fst x.snd.snd ∧ True)) (∃ (x_2 : Nd), chOk x_2 ∧ x.fst.kind = x_2.kind ∧ x.fst.text = x_2.text ∧ AV.sl false (0 : Nat) (1 : Nat) Int intA x.fst.kids = AV.sl false (0 : Nat) (1 : Nat) Int intA x_2.kids ∧ x.fst.blank = x_2.blank ∧ ∀ (y : Unit), True → bcase (decide (lvl x_1 ≤ lvl x_2)) (∃ (y : Unit), True ∧ true = wantsB x.fst x.snd.fst x.snd.snd ∧ True) (∃ (y : Unit), True ∧ false = wantsB x.fst x.snd.fst x.snd.snd ∧ True))) (∃ (x_2 : Nd), chOk x_2 ∧ x.fst.kind = x_2.kind ∧ x.fst.text = x_2.text ∧ AV.sl false (0 : Nat) (1 : Nat) Int intA x.fst.kids = AV.sl false (0 : Nat) (1 : Nat) Int intA x_2.kids ∧ x.fst.blank = x_2.blank ∧ ∀ (y : Unit), True → bcase (decide (lvl x_1 ≤ lvl x_2)) (∃ (y : Unit), True ∧ true = wantsB x.fst x.snd.fst x.snd.snd ∧ True) (∃ (y : Unit), True ∧ false = wantsB x.fst x.snd.fst x.snd.snd ∧ True))) (∃ (x_2 : Nd), chOk x_2 ∧ x.fst.kind = x_2.kind ∧ x.fst.text = x_2.text ∧ AV.sl false (0 : Nat) (1 : Nat) Int intA x.fst.kids = AV.sl false (0 : Nat) (1 : Nat) Int intA x_2.kids ∧ x.fst.blank = x_2.blank ∧ ∀ (y : Unit), True → bcase (decide (lvl x_1 ≤ lvl x_2)) (∃ (y : Unit), True ∧ true = wantsB x.fst x.snd.fst x.snd.snd ∧ True) (∃ (y : Unit), True ∧ false = wantsB x.fst x.snd.fst x.snd.snd ∧ True))) (∃ (x_2 : Nd), chOk x_2 ∧ x.fst.kind = x_2.kind ∧ x.fst.text = x_2.text ∧ AV.sl false (0 : Nat) (1 : Nat) Int intA x.fst.kids = AV.sl false (0 : Nat) (1 : Nat) Int intA x_2.kids ∧ x.fst.blank = x_2.blank ∧ ∀ (y : Unit), True → bcase (decide (lvl x_1 ≤ lvl x_2)) (∃ (y : Unit), True ∧ true = wantsB x.fst x.snd.fst x.snd.snd ∧ True) (∃ (y : Unit), True ∧ false = wantsB x.fst x.snd.fst x.snd.snd ∧ True))) (bcase (x.fst.kind == (8 : Int)) (bcase (x.snd.fst == (0 : Int)) (bcase (decide (lvl x_1 < (2 : Int))) (∃ (y : Unit), True ∧ true = wantsB x.fst x.snd.fst x.snd.snd ∧ True) (∃ (y : Unit), True ∧ decide (lvl x_1 < (1 : Int)) = wantsB x.fst x.snd.fst x.snd.snd ∧ True)) (∃ (y : Unit), True ∧ decide (lvl x_1 < (1 : Int)) = wantsB x.fst x.snd.fst x.snd.snd ∧ True)) (bcase (x.fst.kind == (9 : Int)) (inR IntKind.i64 (x.snd.fst + (1 : Int)) ∧ bcase (x.snd.fst + (1 : Int) == (↑(List.length x.fst.kids) : Int)) (∃ (y : Unit), True ∧ decide (lvl x_1 < (1 : Int)) = wantsB x.fst x.snd.fst x.snd.snd ∧ True) (∃ (y : Unit), True ∧ false = wantsB x.fst x.snd.fst x.snd.snd ∧ True)) (bcase (x.fst.kind == (10 : Int)) (bcase (x.snd.fst == (0 : Int)) (∃ (y : Unit), True ∧ decide (lvl x_1 < (1 : Int)) = wantsB x.fst x.snd.fst x.snd.snd ∧ True) (∃ (y : Unit), True ∧ false = wantsB x.fst x.snd.fst x.snd.snd ∧ True)) (∃ (y : Unit), True ∧ false = wantsB x.fst x.snd.fst x.snd.snd ∧ True))))))) := by kernel_rfl
theorem l23Wants_ok  : Contract G Tryz.prog 109 s_l23Wants :=
  vcFun_ok (Γ := Γof [(155, 0, s_l23Level)]) (E := Eof []) (ov := false) (L := fun x => Lof ([])) Tryz.func109 rfl (by decide) (Γof_ok (l := [(155, 0, s_l23Level)]) ⟨l23Level_ok, trivial⟩) fun (x : Nd × Int × Nd) (hx : x.1.kids.length < 2 ^ 62 ∧ (0 ≤ x.2.1 ∧ x.2.1 < x.1.kids.length) ∧ chOk x.1 ∧ chOk x.2.2) => (l23Wants_vc  x).mpr (by
  obtain ⟨h1, h2, h3, h4⟩ := hx
  (repeat' first | with_reducible rfl | exact True.intro | refine inR_i64 ?_ ?_ | with_reducible refine And.intro ?_ ?_ | with_reducible refine bcase_dec (fun _ => ?_) (fun _ => ?_) | with_reducible refine bcase_bne (fun _ => ?_) (fun _ => ?_) | with_reducible refine bcase_beq (fun _ => ?_) (fun _ => ?_) | with_reducible refine bcase_not (fun _ => ?_) (fun _ => ?_) | refine bcase_intro (fun _ => ?_) (fun _ => ?_) | refine sl_eq ?_ | refine ex_flip () ?_ ?_ | (apply ex_flip6 <;> try dsimp only) | (apply ex_flip5 <;> try dsimp only) | (apply ex_flip4 <;> try dsimp only) | (apply ex_flip3 <;> try dsimp only) | (apply ex_flip2 <;> try dsimp only) | apply ex_flip | (refine Prod.forall.2 ?_; intro _; try dsimp only) | (intro _; try dsimp only))
  all_goals first
    | exact h3
    | exact h4
    | ((try simp only [i64max]); omega)
    | exact h3 (by assumption)
    | exact h4 (by assumption)
    | (rw [wants7 (by assumption) h3 h4]; simp [*]; done)
    | (rw [wants7 (by assumption) h3 h4]; simp_all; done)
    | (rw [wants7 (by assumption) h3 h4]; simp [beqI, *]; done)
    | exact w7a (by assumption) h3 h4 (by assumption) (by assumption) (by assumption) (by assumption) (by assumption)
    | exact w7b (by assumption) h3 h4 (by assumption)
    | (simp [wantsB, *]; done)
    | (simp_all [wantsB]; done)
    | (simp_all [wantsB]; omega)
    | skip)

def bI (ns : List Nd) (k0 k : Int) : Prop := okUp ns k ∧ bare ns k = bare ns k0
theorem bI_kid {ns : List Nd} {k0 k c : Int} {y : Nd} (h : bI ns k0 k) (hy : ns[k.toNat]? = some y) (e : y.kind = 11) (hc : y.kids[0]? = some c) : bI ns k0 c ∧ 0 ≤ c ∧ c < k := by
  have e2 : (ndAt ns k).kind = 11 := by rw [ndAt_of hy]; exact e
  obtain ⟨d, hd⟩ := okUp11 h.1 e2
  have hyk : y.kids = [d] := by rw [← ndAt_of hy]; exact hd
  rw [hyk] at hc; cases hc
  have hm := okUp_kid h.1 (c := c) (by rw [hd]; simp)
  exact ⟨⟨hm.1, by rw [← h.2, bare_11 h.1 e2 hd]⟩, hm.2⟩
theorem bI_len {ns : List Nd} {k0 k : Int} {y : Nd} (h : bI ns k0 k) (hy : ns[k.toNat]? = some y) (e : y.kind = 11) : y.kids.length = 1 := by
  have e2 : (ndAt ns k).kind = 11 := by rw [ndAt_of hy]; exact e
  obtain ⟨d, hd⟩ := okUp11 h.1 e2
  rw [← ndAt_of hy, hd]; rfl
theorem bI_done {ns : List Nd} {k0 k : Int} {y : Nd} (h : bI ns k0 k) (hy : ns[k.toNat]? = some y) (e : y.kind ≠ 11) : k = bare ns k0 := by
  rw [← h.2, bare_ne (by rw [ndAt_of hy]; exact e)]
def s_iBare  : Sig := { X := List Nd × Int, args := fun x => [nds x.1, .int .i64 x.2], pre := fun x => x.1.length < 2 ^ 62 ∧ okUp x.1 x.2, Y := Unit, post := fun x y => True, res := fun x y => .int .i64 (bare x.1 x.2), outs := fun x y => [.top, .top], keep := false }
theorem iBare_vc (x : List Nd × Int) : vcFun Go.Proofs.Tryz.prog (Γof []) (Eof []) false (Lof ([(1,{ ι := Int, inv := bI x.1 x.2, regs := fun i => [(0, nds x.1), (1, .int .i64 i)], als := [], meas := fun i => i.toNat })])) Go.Proofs.Tryz.f55.ntmps Go.Proofs.Tryz.f55.results.toList (Go.Proofs.Tryz.f55.body.getD .skip) s_iBare x = ((∀ (y : Unit), True → True ∧ True ∧ True ∧ True) ∧ (∃ (i : Int), bI x.fst x.snd i ∧ (AV.sl false (0 : Nat) (4 : Nat) Nd (ndA false) x.fst = AV.sl false (0 : Nat) (4 : Nat) Nd (ndA false) x.fst ∧ x.snd = i ∧ True) ∧ True) ∧ ∀ (i : Int), bI x.fst x.snd i → ((0 : Int) ≤ i ∧ i < (↑(List.length x.fst) : Int)) ∧ ∀ (e : Nd), x.fst[Int.toNat i]? = some e → bcase (e.kind == (11 : Int)) (((0 : Int) ≤ i ∧ i < (↑(List.length x.fst) : Int)) ∧ ∀ (e : Nd), x.fst[Int.toNat i]? = some e → ((0 : Int) ≤ (0 : Int) ∧ (0 : Int) < (↑(List.length e.kids) : Int)) ∧ ∀ (e_1 : Int), e.kids[(0 : Nat)]? = some e_1 → ∃ (i' : Int), bI x.fst x.snd i' ∧ Int.toNat i' < Int.toNat i ∧ (AV.sl false (0 : Nat) (4 : Nat) Nd (ndA false) x.fst = AV.sl false (0 : Nat) (4 : Nat) Nd (ndA false) x.fst ∧ e_1 = i' ∧ True) ∧ True) (∃ (y : Unit), True ∧ i = bare x.fst x.snd ∧ True)) := by kernel_rfl
theorem iBare_ok  : Contract G Tryz.prog 55 s_iBare :=
  vcFun_ok (Γ := Γof []) (E := Eof []) (ov := false) (L := fun x => Lof ([(1,{ ι := Int, inv := bI x.1 x.2, regs := fun i => [(0, nds x.1), (1, .int .i64 i)], als := [], meas := fun i => i.toNat })])) Tryz.func55 rfl (by decide) (Γof_ok (l := []) trivial) fun (x : List Nd × Int) (hx : x.1.length < 2 ^ 62 ∧ okUp x.1 x.2) => (iBare_vc  x).mpr (by
  obtain ⟨h1, h2⟩ := hx
  (repeat' first | with_reducible rfl | exact True.intro | refine inR_i64 ?_ ?_ | with_reducible refine And.intro ?_ ?_ | with_reducible refine bcase_dec (fun _ => ?_) (fun _ => ?_) | with_reducible refine bcase_bne (fun _ => ?_) (fun _ => ?_) | with_reducible refine bcase_beq (fun _ => ?_) (fun _ => ?_) | with_reducible refine bcase_not (fun _ => ?_) (fun _ => ?_) | refine bcase_intro (fun _ => ?_) (fun _ => ?_) | refine sl_eq ?_ | refine ex_flip () ?_ ?_ | (apply ex_flip6 <;> try dsimp only) | (apply ex_flip5 <;> try dsimp only) | (apply ex_flip4 <;> try dsimp only) | (apply ex_flip3 <;> try dsimp only) | (apply ex_flip2 <;> try dsimp only) | apply ex_flip | (refine Prod.forall.2 ?_; intro _; try dsimp only) | (intro _; try dsimp only))
  all_goals first
    | exact ⟨h2, rfl⟩
    | exact (isNd_iff.1 (show bI _ _ _ by assumption).1.1).1
    | exact (isNd_iff.1 (show bI _ _ _ by assumption).1.1).2
    | exact bI_done (by assumption) (by assumption) (by assumption)
    | exact (bI_kid (by assumption) (by assumption) (by assumption) (by assumption)).1
    | omega
    | skip
  all_goals (repeat (rename x.1[Int.toNat _]? = some _ => hq; revert hq; rename x.1[Int.toNat _]? = some _ => hr; intro hq; rw [hr] at hq; cases hq))
  all_goals first
    | exact (bI_kid (by assumption) (by assumption) (by assumption) (by assumption)).1
    | (have hk := bI_kid (by assumption) (by assumption) (by assumption) (by assumption); omega)
    | (have hk := bI_len (by assumption) (by assumption) (by assumption); omega)
    | skip)

def s_sBare  : Sig := { X := List Nd × Int, args := fun x => [nds x.1, .int .i64 x.2], pre := fun x => x.1.length < 2 ^ 62 ∧ okUp x.1 x.2, Y := Unit, post := fun x y => True, res := fun x y => .int .i64 (bare x.1 x.2), outs := fun x y => [.top, .top], keep := false }
theorem sBare_vc (x : List Nd × Int) : vcFun Go.Proofs.Tryz.prog (Γof []) (Eof []) false (Lof ([(1,{ ι := Int, inv := bI x.1 x.2, regs := fun i => [(0, nds x.1), (1, .int .i64 i)], als := [], meas := fun i => i.toNat })])) Go.Proofs.Tryz.f108.ntmps Go.Proofs.Tryz.f108.results.toList (Go.Proofs.Tryz.f108.body.getD .skip) s_sBare x = ((∀ (y : Unit), True → True ∧ True ∧ True ∧ True) ∧ (∃ (i : Int), bI x.fst x.snd i ∧ (AV.sl false (0 : Nat) (4 : Nat) Nd (ndA false) x.fst = AV.sl false (0 : Nat) (4 : Nat) Nd (ndA false) x.fst ∧ x.snd = i ∧ True) ∧ True) ∧ ∀ (i : Int), bI x.fst x.snd i → ((0 : Int) ≤ i ∧ i < (↑(List.length x.fst) : Int)) ∧ ∀ (e : Nd), x.fst[Int.toNat i]? = some e → bcase (e.kind == (11 : Int)) (((0 : Int) ≤ i ∧ i < (↑(List.length x.fst) : Int)) ∧ ∀ (e : Nd), x.fst[Int.toNat i]? = some e → ((0 : Int) ≤ (0 : Int) ∧ (0 : Int) < (↑(List.length e.kids) : Int)) ∧ ∀ (e_1 : Int), e.kids[(0 : Nat)]? = some e_1 → ∃ (i' : Int), bI x.fst x.snd i' ∧ Int.toNat i' < Int.toNat i ∧ (AV.sl false (0 : Nat) (4 : Nat) Nd (ndA false) x.fst = AV.sl false (0 : Nat) (4 : Nat) Nd (ndA false) x.fst ∧ e_1 = i' ∧ True) ∧ True) (∃ (y : Unit), True ∧ i = bare x.fst x.snd ∧ True)) := by kernel_rfl
theorem sBare_ok  : Contract G Tryz.prog 108 s_sBare :=
  vcFun_ok (Γ := Γof []) (E := Eof []) (ov := false) (L := fun x => Lof ([(1,{ ι := Int, inv := bI x.1 x.2, regs := fun i => [(0, nds x.1), (1, .int .i64 i)], als := [], meas := fun i => i.toNat })])) Tryz.func108 rfl (by decide) (Γof_ok (l := []) trivial) fun (x : List Nd × Int) (hx : x.1.length < 2 ^ 62 ∧ okUp x.1 x.2) => (sBare_vc  x).mpr (by
  obtain ⟨h1, h2⟩ := hx
  (repeat' first | with_reducible rfl | exact True.intro | refine inR_i64 ?_ ?_ | with_reducible refine And.intro ?_ ?_ | with_reducible refine bcase_dec (fun _ => ?_) (fun _ => ?_) | with_reducible refine bcase_bne (fun _ => ?_) (fun _ => ?_) | with_reducible refine bcase_beq (fun _ => ?_) (fun _ => ?_) | with_reducible refine bcase_not (fun _ => ?_) (fun _ => ?_) | refine bcase_intro (fun _ => ?_) (fun _ => ?_) | refine sl_eq ?_ | refine ex_flip () ?_ ?_ | (apply ex_flip6 <;> try dsimp only) | (apply ex_flip5 <;> try dsimp only) | (apply ex_flip4 <;> try dsimp only) | (apply ex_flip3 <;> try dsimp only) | (apply ex_flip2 <;> try dsimp only) | apply ex_flip | (refine Prod.forall.2 ?_; intro _; try dsimp only) | (intro _; try dsimp only))
  all_goals first
    | exact ⟨h2, rfl⟩
    | exact (isNd_iff.1 (show bI _ _ _ by assumption).1.1).1
    | exact (isNd_iff.1 (show bI _ _ _ by assumption).1.1).2
    | exact bI_done (by assumption) (by assumption) (by assumption)
    | exact (bI_kid (by assumption) (by assumption) (by assumption) (by assumption)).1
    | omega
    | skip
  all_goals (repeat (rename x.1[Int.toNat _]? = some _ => hq; revert hq; rename x.1[Int.toNat _]? = some _ => hr; intro hq; rw [hr] at hq; cases hq))
  all_goals first
    | exact (bI_kid (by assumption) (by assumption) (by assumption) (by assumption)).1
    | (have hk := bI_kid (by assumption) (by assumption) (by assumption) (by assumption); omega)
    | (have hk := bI_len (by assumption) (by assumption) (by assumption); omega)
    | skip)

def s_sp1  : Sig := { X := List Nd × Nd × Int × Int, args := fun x => [.agg (ndA false x.2.1), .int .i64 x.2.2.1, .int .i64 x.2.2.2, .pf [nds x.1]], pre := fun x => x.1.length < 2 ^ 62 ∧ okUp x.1 x.2.2.2 ∧ x.2.1.kids.length < 2 ^ 62, Y := Unit, post := fun x y => True, res := fun x y => .tup [.int .i64 (bare x.1 x.2.2.2), .bool (decide (kindAt x.1 x.2.2.2 = 11) && wantsB x.2.1 x.2.2.1 (ndAt x.1 (bare x.1 x.2.2.2)))], outs := fun x y => [.top, .top, .top, .top], keep := false }
theorem sp1_vc (x : List Nd × Nd × Int × Int) : vcFun Go.Proofs.Tryz.prog (Γof [(55, 0, s_iBare), (56, 0, s_wants)]) (Eof []) false (Lof ([])) Go.Proofs.Tryz.f54.ntmps Go.Proofs.Tryz.f54.results.toList (Go.Proofs.Tryz.f54.body.getD .skip) s_sp1 x = ((∀ (y : Unit), True → (True ∧ True ∧ True) ∧ True ∧ True ∧ True ∧ True ∧ True) ∧ ((0 : Int) ≤ x.snd.snd.snd ∧ x.snd.snd.snd < (↑(List.length x.fst) : Int)) ∧ ∀ (e : Nd), x.fst[Int.toNat x.snd.snd.snd]? = some e → bcase (e.kind != (11 : Int)) (∃ (y : Unit), True ∧ x.snd.snd.snd = bare x.fst x.snd.snd.snd ∧ false = (decide (kindAt x.fst x.snd.snd.snd = (11 : Int)) && wantsB x.snd.fst x.snd.snd.fst (ndAt x.fst (bare x.fst x.snd.snd.snd))) ∧ True) (∃ (x_1 : List Nd × Int), (List.length x_1.fst < (4611686018427387904 : Nat) ∧ okUp x_1.fst x_1.snd) ∧ AV.sl false (0 : Nat) (4 : Nat) Nd (ndA false) x.fst = AV.sl false (0 : Nat) (4 : Nat) Nd (ndA false) x_1.fst ∧ x.snd.snd.snd = x_1.snd ∧ ∀ (y : Unit), True → true = true ∧ true = true ∧ ((0 : Int) ≤ bare x_1.fst x_1.snd ∧ bare x_1.fst x_1.snd < (↑(List.length x.fst) : Int)) ∧ ∀ (e : Nd), x.fst[Int.toNat (bare x_1.fst x_1.snd)]? = some e → ∃ (x_2 : Nd × Int × Nd), List.length x_2.fst.kids < (4611686018427387904 : Nat) ∧ x.snd.fst.kind = x_2.fst.kind ∧ x.snd.fst.text = x_2.fst.text ∧ AV.sl false (0 : Nat) (1 : Nat) Int intA x.snd.fst.kids = AV.sl false (0 : Nat) (1 : Nat) Int intA x_2.fst.kids ∧ x.snd.fst.blank = x_2.fst.blank ∧ x.snd.snd.fst = x_2.snd.fst ∧ e.kind = x_2.snd.snd.kind ∧ e.text = x_2.snd.snd.text ∧ AV.sl false (0 : Nat) (1 : Nat) Int intA e.kids = AV.sl false (0 : Nat) (1 : Nat) Int intA x_2.snd.snd.kids ∧ e.blank = x_2.snd.snd.blank ∧ ∃ (y0 : Unit), (∀ (y : Unit), True → AV.bool (wantsB x_2.fst x_2.snd.fst x_2.snd.snd) = AV.bool (wantsB x_2.fst x_2.snd.fst x_2.snd.snd)) ∧ true = true ∧ ∃ (y : Unit), True ∧ bare x_1.fst x_1.snd = bare x.fst x.snd.snd.snd ∧ wantsB x_2.fst x_2.snd.fst x_2.snd.snd = (decide (kindAt x.fst x.snd.snd.snd = (11 : Int)) && wantsB x.snd.fst x.snd.snd.fst (ndAt x.fst (bare x.fst x.snd.snd.snd))) ∧ True)) := by kernel_rfl
theorem sp1_ok  : Contract G Tryz.prog 54 s_sp1 :=
  vcFun_ok (Γ := Γof [(55, 0, s_iBare), (56, 0, s_wants)]) (E := Eof []) (ov := false) (L := fun x => Lof ([])) Tryz.func54 rfl (by decide) (Γof_ok (l := [(55, 0, s_iBare), (56, 0, s_wants)]) ⟨iBare_ok, wants_ok, trivial⟩) fun (x : List Nd × Nd × Int × Int) (hx : x.1.length < 2 ^ 62 ∧ okUp x.1 x.2.2.2 ∧ x.2.1.kids.length < 2 ^ 62) => (sp1_vc  x).mpr (by
  obtain ⟨h1, h2, h3⟩ := hx
  have hr := isNd_iff.1 h2.1
  have hb := bare_ok (x.2.2.2.toNat + 1) (k := x.2.2.2) (by omega) h2
  have hr2 := isNd_iff.1 hb.1.1
  (repeat' first | with_reducible rfl | exact True.intro | refine inR_i64 ?_ ?_ | with_reducible refine And.intro ?_ ?_ | with_reducible refine bcase_dec (fun _ => ?_) (fun _ => ?_) | with_reducible refine bcase_bne (fun _ => ?_) (fun _ => ?_) | with_reducible refine bcase_beq (fun _ => ?_) (fun _ => ?_) | with_reducible refine bcase_not (fun _ => ?_) (fun _ => ?_) | refine bcase_intro (fun _ => ?_) (fun _ => ?_) | refine sl_eq ?_ | refine ex_flip () ?_ ?_ | (apply ex_flip6 <;> try dsimp only) | (apply ex_flip5 <;> try dsimp only) | (apply ex_flip4 <;> try dsimp only) | (apply ex_flip3 <;> try dsimp only) | (apply ex_flip2 <;> try dsimp only) | apply ex_flip | (refine Prod.forall.2 ?_; intro _; try dsimp only) | (intro _; try dsimp only))
  all_goals first
    | exact h1
    | exact h2
    | exact h3
    | omega
    | (rw [bare_ne (by rw [ndAt_of (by assumption)]; assumption)]; done)
    | (simp [kindAt, ndAt_of (show x.1[Int.toNat x.2.2.2]? = some _ by assumption), *]; done)
    | (rw [ndAt_of (show x.1[Int.toNat (bare x.1 x.2.2.2)]? = some _ by assumption)]; simp [kindAt, ndAt_of (show x.1[Int.toNat x.2.2.2]? = some _ by assumption), *]; done)
    | skip)

end Go.My
end
section
/- Brackets that are spared: trees made anew. -/
set_option linter.unusedVariables false
set_option linter.unusedSimpArgs false
namespace Go.My
open Go.Eng Go.Proofs
variable {G : GInv}

def s_clone  : Sig := { X := List Int, args := fun x => [ints x], pre := fun x => x.length ≤ 2 ^ 40, Y := Unit, post := fun x y => True, res := fun x y => oints x, outs := fun x y => [.top], keep := false }
theorem clone_vc (x : List Int) : vcFun Go.Proofs.Tryz.prog (Γof []) (Eof [(39, ⟨Int,intA⟩)]) false (Lof ([])) Go.Proofs.Tryz.f111.ntmps Go.Proofs.Tryz.f111.results.toList (Go.Proofs.Tryz.f111.body.getD .skip) s_clone x = ((∀ (y : Unit), True → (∀ (x : Int), True ∧ True) ∧ True ∧ True) ∧ ∀ (b : Bool), (b = true → x = []) → bcase b (∃ (y : Unit), True ∧ x = [] ∧ True) (∃ (zs : List Int), AV.sl false (0 : Nat) (1 : Nat) Int intA x = AV.sl false (0 : Nat) (1 : Nat) Int intA zs ∧ leafy intA ∧ room ((0 : Nat) + List.length zs) (8 : Nat) ∧ ∃ (y : Unit), True ∧ AV.sl true (0 : Nat) (1 : Nat) Int intA ([] ++ zs) = AV.sl true (0 : Nat) (1 : Nat) Int intA x ∧ True)) := by kernel_rfl
theorem clone_ok  : Contract G Tryz.prog 111 s_clone :=
  vcFun_ok (Γ := Γof []) (E := Eof [(39, ⟨Int,intA⟩)]) (ov := false) (L := fun x => Lof ([])) Tryz.func111 rfl (by decide) (Γof_ok (l := []) trivial) fun (x : List Int) (hx : x.length ≤ 2 ^ 40) => (clone_vc  x).mpr (by
  have hx : x.length ≤ 2 ^ 40 := hx
  (repeat' first | with_reducible rfl | exact True.intro | refine inR_i64 ?_ ?_ | with_reducible refine And.intro ?_ ?_ | with_reducible refine bcase_dec (fun _ => ?_) (fun _ => ?_) | with_reducible refine bcase_bne (fun _ => ?_) (fun _ => ?_) | with_reducible refine bcase_beq (fun _ => ?_) (fun _ => ?_) | with_reducible refine bcase_not (fun _ => ?_) (fun _ => ?_) | refine bcase_intro (fun _ => ?_) (fun _ => ?_) | refine sl_eq ?_ | refine ex_flip () ?_ ?_ | (apply ex_flip6 <;> try dsimp only) | (apply ex_flip5 <;> try dsimp only) | (apply ex_flip4 <;> try dsimp only) | (apply ex_flip3 <;> try dsimp only) | (apply ex_flip2 <;> try dsimp only) | apply ex_flip | (refine Prod.forall.2 ?_; intro _; try dsimp only) | (intro _; try dsimp only))
  all_goals first
    | rfl
    | (rename_i h0 hb; rw [h0 hb]; done)
    | ((try simp only [room, List.length_nil]); omega)
    | skip)

theorem take_next {l : List Nd} {i : Int} {e : Nd} (h0 : 0 ≤ i) (he : l[i.toNat]? = some e) : l.take i.toNat ++ [e] = l.take (i + 1).toNat := by rw [toNat1 h0, takeE he]
theorem take_end {l : List Nd} {i : Int} (h : ¬ i < (l.length : Int)) : l.take i.toNat = l := List.take_of_length_le (by omega)
def kidsB (l : List Nd) : Prop := l.length ≤ 2 ^ 30 ∧ ∀ e ∈ l, e.kids.length ≤ 2 ^ 30
def s_copyNodes  : Sig := { X := List Nd, args := fun x => [nds x], pre := fun x => kidsB x, Y := Unit, post := fun x y => True, res := fun x y => onds x, outs := fun x y => [.top], keep := false }
theorem copyNodes_vc (x : List Nd) : vcFun Go.Proofs.Tryz.prog (Γof [(111, 0, s_clone)]) (Eof [(24, ⟨Nd,ndA true⟩)]) false (Lof ([(3,{ ι := Int, inv := fun i => 0 ≤ i ∧ i ≤ x.length, regs := fun i => [(3, onds (x.take i.toNat)), (6, nds x), (7, .int .i64 x.length), (8, .int .i64 i)], als := [], meas := fun i => x.length - i.toNat })])) Go.Proofs.Tryz.f53.ntmps Go.Proofs.Tryz.f53.results.toList (Go.Proofs.Tryz.f53.body.getD .skip) s_copyNodes x = ((∀ (y : Unit), True → (∀ (x : Nd), True ∧ True ∧ (∀ (x : Int), True ∧ True) ∧ True ∧ True) ∧ True ∧ True) ∧ (∃ (i : Int), ((0 : Int) ≤ i ∧ i ≤ (↑(List.length x) : Int)) ∧ (List.take (Int.toNat i) x = [] ∧ AV.sl false (0 : Nat) (4 : Nat) Nd (ndA false) x = AV.sl false (0 : Nat) (4 : Nat) Nd (ndA false) x ∧ (↑(List.length x) : Int) = (↑(List.length x) : Int) ∧ (0 : Int) = i ∧ True) ∧ True) ∧ ∀ (i : Int), (0 : Int) ≤ i ∧ i ≤ (↑(List.length x) : Int) → bcase (decide (i < (↑(List.length x) : Int))) (((0 : Int) ≤ i ∧ i < (↑(List.length x) : Int)) ∧ ∀ (e : Nd), x[Int.toNat i]? = some e → ∃ (x_1 : List Int), List.length x_1 ≤ (1099511627776 : Nat) ∧ AV.sl false (0 : Nat) (1 : Nat) Int intA e.kids = AV.sl false (0 : Nat) (1 : Nat) Int intA x_1 ∧ ∀ (y : Unit), True → ∃ (x_2 : Nd), e.kind = x_2.kind ∧ e.text = x_2.text ∧ AV.sl true (0 : Nat) (1 : Nat) Int intA x_1 = AV.sl true (0 : Nat) (1 : Nat) Int intA x_2.kids ∧ e.blank = x_2.blank ∧ ∃ (zs : List Nd), AV.sl true (0 : Nat) (4 : Nat) Nd (ndA true) [x_2] = AV.sl true (0 : Nat) (4 : Nat) Nd (ndA true) zs ∧ leafy (ndA true) ∧ room (List.length (List.take (Int.toNat i) x) + List.length zs) (56 : Nat) ∧ inR IntKind.i64 (i + (1 : Int)) ∧ ∃ (i' : Int), ((0 : Int) ≤ i' ∧ i' ≤ (↑(List.length x) : Int)) ∧ List.length x - Int.toNat i' < List.length x - Int.toNat i ∧ (AV.sl true (0 : Nat) (4 : Nat) Nd (ndA true) (List.take (Int.toNat i) x ++ zs) = AV.sl true (0 : Nat) (4 : Nat) Nd (ndA true) (List.take (Int.toNat i') x) ∧ AV.sl false (0 : Nat) (4 : Nat) Nd (ndA false) x = AV.sl false (0 : Nat) (4 : Nat) Nd (ndA false) x ∧ (↑(List.length x) : Int) = (↑(List.length x) : Int) ∧ i + (1 : Int) = i' ∧ True) ∧ True) (∃ (y : Unit), True ∧ AV.sl true (0 : Nat) (4 : Nat) Nd (ndA true) (List.take (Int.toNat i) x) = AV.sl true (0 : Nat) (4 : Nat) Nd (ndA true) x ∧ True)) := by kernel_rfl
theorem copyNodes_ok  : Contract G Tryz.prog 53 s_copyNodes :=
  vcFun_ok (Γ := Γof [(111, 0, s_clone)]) (E := Eof [(24, ⟨Nd,ndA true⟩)]) (ov := false) (L := fun x => Lof ([(3,{ ι := Int, inv := fun i => 0 ≤ i ∧ i ≤ x.length, regs := fun i => [(3, onds (x.take i.toNat)), (6, nds x), (7, .int .i64 x.length), (8, .int .i64 i)], als := [], meas := fun i => x.length - i.toNat })])) Tryz.func53 rfl (by decide) (Γof_ok (l := [(111, 0, s_clone)]) ⟨clone_ok, trivial⟩) fun (x : List Nd) (hx : kidsB x) => (copyNodes_vc  x).mpr (by
  obtain ⟨h1, h2⟩ := hx
  (repeat' first | with_reducible rfl | exact True.intro | refine inR_i64 ?_ ?_ | with_reducible refine And.intro ?_ ?_ | with_reducible refine bcase_dec (fun _ => ?_) (fun _ => ?_) | with_reducible refine bcase_bne (fun _ => ?_) (fun _ => ?_) | with_reducible refine bcase_beq (fun _ => ?_) (fun _ => ?_) | with_reducible refine bcase_not (fun _ => ?_) (fun _ => ?_) | refine bcase_intro (fun _ => ?_) (fun _ => ?_) | refine sl_eq ?_ | refine ex_flip () ?_ ?_ | (apply ex_flip6 <;> try dsimp only) | (apply ex_flip5 <;> try dsimp only) | (apply ex_flip4 <;> try dsimp only) | (apply ex_flip3 <;> try dsimp only) | (apply ex_flip2 <;> try dsimp only) | apply ex_flip | (refine Prod.forall.2 ?_; intro _; try dsimp only) | (intro _; try dsimp only))
  all_goals first
    | rfl
    | exact take_next (And.left (by assumption)) (by assumption)
    | exact take_end (by assumption)
    | (have hk := h2 _ (memE (show x[Int.toNat _]? = some _ by assumption)); omega)
    | ((try simp only [i64max, room, List.length_take, List.length_cons, List.length_nil]); omega)
    | skip)

def s_l05Copy  : Sig := { X := List Nd, args := fun x => [nds x], pre := fun x => kidsB x, Y := Unit, post := fun x y => True, res := fun x y => onds x, outs := fun x y => [.top], keep := false }
theorem l05Copy_vc (x : List Nd) : vcFun Go.Proofs.Tryz.prog (Γof []) (Eof [(24, ⟨Nd,ndA true⟩), (39, ⟨Int,intA⟩)]) false (Lof ([(3,{ ι := Int, inv := fun i => 0 ≤ i ∧ i ≤ x.length, regs := fun i => [(0, nds x), (3, onds (x.take i.toNat)), (4, .int .i64 i)], als := [], meas := fun i => x.length - i.toNat })])) Go.Proofs.Tryz.f49.ntmps Go.Proofs.Tryz.f49.results.toList (Go.Proofs.Tryz.f49.body.getD .skip) s_l05Copy x = ((∀ (y : Unit), True → (∀ (x : Nd), True ∧ True ∧ (∀ (x : Int), True ∧ True) ∧ True ∧ True) ∧ True ∧ True) ∧ (∃ (i : Int), ((0 : Int) ≤ i ∧ i ≤ (↑(List.length x) : Int)) ∧ (AV.sl false (0 : Nat) (4 : Nat) Nd (ndA false) x = AV.sl false (0 : Nat) (4 : Nat) Nd (ndA false) x ∧ AV.sl true (0 : Nat) (4 : Nat) Nd (ndA true) [] = AV.sl true (0 : Nat) (4 : Nat) Nd (ndA true) (List.take (Int.toNat i) x) ∧ (0 : Int) = i ∧ True) ∧ True) ∧ ∀ (i : Int), (0 : Int) ≤ i ∧ i ≤ (↑(List.length x) : Int) → bcase (decide (i < (↑(List.length x) : Int))) (((0 : Int) ≤ i ∧ i < (↑(List.length x) : Int)) ∧ ∀ (e : Nd), x[Int.toNat i]? = some e → ∃ (zs : List Int), AV.sl false (0 : Nat) (1 : Nat) Int intA e.kids = AV.sl false (0 : Nat) (1 : Nat) Int intA zs ∧ leafy intA ∧ room ((0 : Nat) + List.length zs) (8 : Nat) ∧ ∃ (x_1 : Nd), e.kind = x_1.kind ∧ e.text = x_1.text ∧ AV.sl true (0 : Nat) (1 : Nat) Int intA ([] ++ zs) = AV.sl true (0 : Nat) (1 : Nat) Int intA x_1.kids ∧ e.blank = x_1.blank ∧ ∃ (zs : List Nd), AV.sl true (0 : Nat) (4 : Nat) Nd (ndA true) [x_1] = AV.sl true (0 : Nat) (4 : Nat) Nd (ndA true) zs ∧ leafy (ndA true) ∧ room (List.length (List.take (Int.toNat i) x) + List.length zs) (56 : Nat) ∧ inR IntKind.i64 (i + (1 : Int)) ∧ ∃ (i' : Int), ((0 : Int) ≤ i' ∧ i' ≤ (↑(List.length x) : Int)) ∧ List.length x - Int.toNat i' < List.length x - Int.toNat i ∧ (AV.sl false (0 : Nat) (4 : Nat) Nd (ndA false) x = AV.sl false (0 : Nat) (4 : Nat) Nd (ndA false) x ∧ AV.sl true (0 : Nat) (4 : Nat) Nd (ndA true) (List.take (Int.toNat i) x ++ zs) = AV.sl true (0 : Nat) (4 : Nat) Nd (ndA true) (List.take (Int.toNat i') x) ∧ i + (1 : Int) = i' ∧ True) ∧ True) (∃ (y : Unit), True ∧ AV.sl true (0 : Nat) (4 : Nat) Nd (ndA true) (List.take (Int.toNat i) x) = AV.sl true (0 : Nat) (4 : Nat) Nd (ndA true) x ∧ True)) := by kernel_rfl
theorem l05Copy_ok  : Contract G Tryz.prog 49 s_l05Copy :=
  vcFun_ok (Γ := Γof []) (E := Eof [(24, ⟨Nd,ndA true⟩), (39, ⟨Int,intA⟩)]) (ov := false) (L := fun x => Lof ([(3,{ ι := Int, inv := fun i => 0 ≤ i ∧ i ≤ x.length, regs := fun i => [(0, nds x), (3, onds (x.take i.toNat)), (4, .int .i64 i)], als := [], meas := fun i => x.length - i.toNat })])) Tryz.func49 rfl (by decide) (Γof_ok (l := []) trivial) fun (x : List Nd) (hx : kidsB x) => (l05Copy_vc  x).mpr (by
  obtain ⟨h1, h2⟩ := hx
  (repeat' first | with_reducible rfl | exact True.intro | refine inR_i64 ?_ ?_ | with_reducible refine And.intro ?_ ?_ | with_reducible refine bcase_dec (fun _ => ?_) (fun _ => ?_) | with_reducible refine bcase_bne (fun _ => ?_) (fun _ => ?_) | with_reducible refine bcase_beq (fun _ => ?_) (fun _ => ?_) | with_reducible refine bcase_not (fun _ => ?_) (fun _ => ?_) | refine bcase_intro (fun _ => ?_) (fun _ => ?_) | refine sl_eq ?_ | refine ex_flip () ?_ ?_ | (apply ex_flip6 <;> try dsimp only) | (apply ex_flip5 <;> try dsimp only) | (apply ex_flip4 <;> try dsimp only) | (apply ex_flip3 <;> try dsimp only) | (apply ex_flip2 <;> try dsimp only) | apply ex_flip | (refine Prod.forall.2 ?_; intro _; try dsimp only) | (intro _; try dsimp only))
  all_goals first
    | rfl
    | exact take_next (And.left (by assumption)) (by assumption)
    | exact take_end (by assumption)
    | (have hk := h2 _ (memE (show x[Int.toNat _]? = some _ by assumption)); (try simp only [room, List.length_nil]); omega)
    | ((try simp only [i64max, room, List.length_take, List.length_cons, List.length_nil]); omega)
    | skip)

/- the maker -/
def clSp (ns : List Nd) : AV := .clo (.func 54) [.pf [nds ns]]
def s_mAddS  : Sig := { X := List Nd × List Nd × Int × List UInt8 × List Int × Bool, args := fun x => [.box 0 [nds x.1, onds x.2.1, clSp x.1], .agg (ndA true ⟨x.2.2.1, x.2.2.2.1, x.2.2.2.2.1, x.2.2.2.2.2⟩)], pre := fun x => x.2.1.length ≤ 2 ^ 21, Y := Unit, post := fun x y => True, res := fun x y => .int .i64 x.2.1.length, outs := fun x y => [.box 0 [nds x.1, onds (x.2.1 ++ [⟨x.2.2.1, x.2.2.2.1, x.2.2.2.2.1, x.2.2.2.2.2⟩]), clSp x.1], .top], keep := true }
theorem mAddS_vc (x : List Nd × List Nd × Int × List UInt8 × List Int × Bool) : vcFun Go.Proofs.Tryz.prog (Γof []) (Eof [(24, ⟨Nd,ndA true⟩)]) false (Lof ([(100001,{ ι := Unit, inv := fun _ => True, regs := fun _ => [(0, .box 0 [nds x.1, onds (x.2.1 ++ [⟨x.2.2.1, x.2.2.2.1, x.2.2.2.2.1, x.2.2.2.2.2⟩]), clSp x.1])], als := [], meas := fun _ => 0 })])) Go.Proofs.Tryz.f115.ntmps Go.Proofs.Tryz.f115.results.toList (Go.Proofs.Tryz.f115.body.getD .skip) s_mAddS x = (True ∧ true = true ∧ ((∃ (x_1 : Nd), x.snd.snd.fst = x_1.kind ∧ x.snd.snd.snd.fst = x_1.text ∧ AV.sl true (0 : Nat) (1 : Nat) Int intA x.snd.snd.snd.snd.fst = AV.sl true (0 : Nat) (1 : Nat) Int intA x_1.kids ∧ x.snd.snd.snd.snd.snd = x_1.blank ∧ ∃ (zs : List Nd), AV.sl true (0 : Nat) (4 : Nat) Nd (ndA true) [x_1] = AV.sl true (0 : Nat) (4 : Nat) Nd (ndA true) zs ∧ leafy (ndA true) ∧ room (List.length x.snd.fst + List.length zs) (56 : Nat) ∧ true = true ∧ ∃ (i : Unit), True ∧ (AV.sl false (0 : Nat) (4 : Nat) Nd (ndA false) x.fst = AV.sl false (0 : Nat) (4 : Nat) Nd (ndA false) x.fst ∧ AV.sl true (0 : Nat) (4 : Nat) Nd (ndA true) (x.snd.fst ++ zs) = AV.sl true (0 : Nat) (4 : Nat) Nd (ndA true) (x.snd.fst ++ [{ kind := x.snd.snd.fst, text := x.snd.snd.snd.fst, kids := x.snd.snd.snd.snd.fst, blank := x.snd.snd.snd.snd.snd }]) ∧ AV.pf [AV.sl false (0 : Nat) (4 : Nat) Nd (ndA false) x.fst] = AV.pf [AV.sl false (0 : Nat) (4 : Nat) Nd (ndA false) x.fst] ∧ True) ∧ True) ∧ (∃ (x_1 : Nd), x.snd.snd.fst = x_1.kind ∧ x.snd.snd.snd.fst = x_1.text ∧ AV.sl true (0 : Nat) (1 : Nat) Int intA x.snd.snd.snd.snd.fst = AV.sl true (0 : Nat) (1 : Nat) Int intA x_1.kids ∧ x.snd.snd.snd.snd.snd = x_1.blank ∧ ∃ (zs : List Nd), AV.sl true (0 : Nat) (4 : Nat) Nd (ndA true) [x_1] = AV.sl true (0 : Nat) (4 : Nat) Nd (ndA true) zs ∧ leafy (ndA true) ∧ room (List.length x.snd.fst + List.length zs) (56 : Nat) ∧ true = true ∧ ∃ (i : Unit), True ∧ (AV.sl false (0 : Nat) (4 : Nat) Nd (ndA false) x.fst = AV.sl false (0 : Nat) (4 : Nat) Nd (ndA false) x.fst ∧ AV.sl true (0 : Nat) (4 : Nat) Nd (ndA true) (x.snd.fst ++ zs) = AV.sl true (0 : Nat) (4 : Nat) Nd (ndA true) (x.snd.fst ++ [{ kind := x.snd.snd.fst, text := x.snd.snd.snd.fst, kids := x.snd.snd.snd.snd.fst, blank := x.snd.snd.snd.snd.snd }]) ∧ AV.pf [AV.sl false (0 : Nat) (4 : Nat) Nd (ndA false) x.fst] = AV.pf [AV.sl false (0 : Nat) (4 : Nat) Nd (ndA false) x.fst] ∧ True) ∧ True) ∧ ∃ (x_1 : Nd), x.snd.snd.fst = x_1.kind ∧ x.snd.snd.snd.fst = x_1.text ∧ AV.sl true (0 : Nat) (1 : Nat) Int intA x.snd.snd.snd.snd.fst = AV.sl true (0 : Nat) (1 : Nat) Int intA x_1.kids ∧ x.snd.snd.snd.snd.snd = x_1.blank ∧ ∃ (zs : List Nd), AV.sl true (0 : Nat) (4 : Nat) Nd (ndA true) [x_1] = AV.sl true (0 : Nat) (4 : Nat) Nd (ndA true) zs ∧ leafy (ndA true) ∧ room (List.length x.snd.fst + List.length zs) (56 : Nat) ∧ true = true ∧ ∃ (i : Unit), True ∧ (AV.sl false (0 : Nat) (4 : Nat) Nd (ndA false) x.fst = AV.sl false (0 : Nat) (4 : Nat) Nd (ndA false) x.fst ∧ AV.sl true (0 : Nat) (4 : Nat) Nd (ndA true) (x.snd.fst ++ zs) = AV.sl true (0 : Nat) (4 : Nat) Nd (ndA true) (x.snd.fst ++ [{ kind := x.snd.snd.fst, text := x.snd.snd.snd.fst, kids := x.snd.snd.snd.snd.fst, blank := x.snd.snd.snd.snd.snd }]) ∧ AV.pf [AV.sl false (0 : Nat) (4 : Nat) Nd (ndA false) x.fst] = AV.pf [AV.sl false (0 : Nat) (4 : Nat) Nd (ndA false) x.fst] ∧ True) ∧ True) ∧ ∀ (i : Unit), True → inR IntKind.i64 ((↑(List.length (x.snd.fst ++ [{ kind := x.snd.snd.fst, text := x.snd.snd.snd.fst, kids := x.snd.snd.snd.snd.fst, blank := x.snd.snd.snd.snd.snd }])) : Int) - (1 : Int)) ∧ ∃ (y : Unit), True ∧ (↑(List.length (x.snd.fst ++ [{ kind := x.snd.snd.fst, text := x.snd.snd.snd.fst, kids := x.snd.snd.snd.snd.fst, blank := x.snd.snd.snd.snd.snd }])) : Int) - (1 : Int) = (↑(List.length x.snd.fst) : Int) ∧ AV.sl false (0 : Nat) (4 : Nat) Nd (ndA false) x.fst = AV.sl false (0 : Nat) (4 : Nat) Nd (ndA false) x.fst ∧ AV.sl true (0 : Nat) (4 : Nat) Nd (ndA true) (x.snd.fst ++ [{ kind := x.snd.snd.fst, text := x.snd.snd.snd.fst, kids := x.snd.snd.snd.snd.fst, blank := x.snd.snd.snd.snd.snd }]) = AV.sl true (0 : Nat) (4 : Nat) Nd (ndA true) (x.snd.fst ++ [{ kind := x.snd.snd.fst, text := x.snd.snd.snd.fst, kids := x.snd.snd.snd.snd.fst, blank := x.snd.snd.snd.snd.snd }]) ∧ AV.pf [AV.sl false (0 : Nat) (4 : Nat) Nd (ndA false) x.fst] = AV.pf [AV.sl false (0 : Nat) (4 : Nat) Nd (ndA false) x.fst] ∧ True) := by kernel_rfl
theorem mAddS_ok  : Contract G Tryz.prog 115 s_mAddS :=
  vcFun_ok (Γ := Γof []) (E := Eof [(24, ⟨Nd,ndA true⟩)]) (ov := false) (L := fun x => Lof ([(100001,{ ι := Unit, inv := fun _ => True, regs := fun _ => [(0, .box 0 [nds x.1, onds (x.2.1 ++ [⟨x.2.2.1, x.2.2.2.1, x.2.2.2.2.1, x.2.2.2.2.2⟩]), clSp x.1])], als := [], meas := fun _ => 0 })])) Tryz.func115 rfl (by decide) (Γof_ok (l := []) trivial) fun (x : List Nd × List Nd × Int × List UInt8 × List Int × Bool) (hx : x.2.1.length ≤ 2 ^ 21) => (mAddS_vc  x).mpr (by
  have hx : x.2.1.length ≤ 2 ^ 21 := hx
  (repeat' first | with_reducible rfl | exact True.intro | refine inR_i64 ?_ ?_ | with_reducible refine And.intro ?_ ?_ | with_reducible refine bcase_dec (fun _ => ?_) (fun _ => ?_) | with_reducible refine bcase_bne (fun _ => ?_) (fun _ => ?_) | with_reducible refine bcase_beq (fun _ => ?_) (fun _ => ?_) | with_reducible refine bcase_not (fun _ => ?_) (fun _ => ?_) | refine bcase_intro (fun _ => ?_) (fun _ => ?_) | refine sl_eq ?_ | refine ex_flip () ?_ ?_ | (apply ex_flip6 <;> try dsimp only) | (apply ex_flip5 <;> try dsimp only) | (apply ex_flip4 <;> try dsimp only) | (apply ex_flip3 <;> try dsimp only) | (apply ex_flip2 <;> try dsimp only) | apply ex_flip | (refine Prod.forall.2 ?_; intro _; try dsimp only) | (intro _; try dsimp only))
  all_goals first
    | rfl
    | ((try simp only [i64max, room, List.length_append, List.length_cons, List.length_nil]); omega)
    | skip)

def putP (R : List Nd → Rw) (n : Nat) (x : List Nd × Int × List Nd) : Prop := okNds x.1 ∧ okUp x.1 x.2.1 ∧ x.2.1 < n ∧ x.2.2.length + 2 * (vis x.1 n x.2.1).length ≤ 1048576
def s_mN (n : Nat) : Sig := { X := List Nd × Int × List Nd, args := fun x => [.box 0 [nds x.1, onds x.2.2, clSp x.1], .int .i64 x.2.1], pre := fun x => putP rSp n x, Y := Unit, post := fun x y => True, res := fun x y => .int .i64 ((putN x.1 (rSp x.1) n x.2.1 x.2.2).length - 1), outs := fun x y => [.box 0 [nds x.1, onds (putN x.1 (rSp x.1) n x.2.1 x.2.2), clSp x.1], .top], keep := true }
theorem pkS_no {ns : List Nd} {n : Nat} {k : Int} {out0 : List Nd} {i c : Int} {out : List Nd} {ks : List Int} (h : pk ns (rSp ns) n k out0 i out ks) (hu : okUp ns k) (hk : k < n + 1)
    (hc : (ndAt ns k).kids[i.toNat]? = some c) (hp : (decide (kindAt ns c = 11) && wantsB (ndAt ns k) i (ndAt ns (bare ns c))) = false) :
    pk ns (rSp ns) n k out0 (i + 1) (putN ns (rSp ns) n (bare ns c) out) (ks ++ [((putN ns (rSp ns) n (bare ns c) out).length : Int) - 1]) := by
  have := pk_next rSp_ok h hu hk hc
  have e : put1 (rSp ns) (putN ns (rSp ns) n) k i c out = putN ns (rSp ns) n (bare ns c) out := by
    rw [put1, if_neg (by simpa [rSp] using hp)]; rfl
  rwa [e] at this
theorem pkS_yes {ns : List Nd} {n : Nat} {k : Int} {out0 : List Nd} {i c : Int} {out : List Nd} {ks : List Int} (h : pk ns (rSp ns) n k out0 i out ks) (hu : okUp ns k) (hk : k < n + 1)
    (hc : (ndAt ns k).kids[i.toNat]? = some c) (hp : (decide (kindAt ns c = 11) && wantsB (ndAt ns k) i (ndAt ns (bare ns c))) = true) :
    pk ns (rSp ns) n k out0 (i + 1) (putN ns (rSp ns) n (bare ns c) out ++ [⟨11, [], [((putN ns (rSp ns) n (bare ns c) out).length : Int) - 1], false⟩]) (ks ++ [((putN ns (rSp ns) n (bare ns c) out).length : Int)]) := by
  have := pk_next rSp_ok h hu hk hc
  have e : put1 (rSp ns) (putN ns (rSp ns) n) k i c out = putN ns (rSp ns) n (bare ns c) out ++ [⟨11, [], [((putN ns (rSp ns) n (bare ns c) out).length : Int) - 1], false⟩] := by
    rw [put1, if_pos (by simpa [rSp] using hp)]; rfl
  rw [e] at this
  simpa using this
theorem pkS_pre {ns : List Nd} {n : Nat} {k : Int} {out0 : List Nd} {i c : Int} {out : List Nd} {ks : List Int} (h : pk ns (rSp ns) n k out0 i out ks) (hx : putP rSp (n + 1) (ns, k, out0)) (hc : (ndAt ns k).kids[i.toNat]? = some c) :
    putP rSp n (ns, bare ns c, out) := by
  obtain ⟨h1, h2, h3, h4⟩ := hx
  obtain ⟨g1, g2, g3⟩ := pk_pre rSp_ok h h2 (by simpa using h3) hc h4
  exact ⟨h1, g1, g2, g3⟩
theorem pkS_bd {ns : List Nd} {n : Nat} {k : Int} {out0 : List Nd} {i c : Int} {out : List Nd} {ks : List Int} (h : pk ns (rSp ns) n k out0 i out ks) (hx : putP rSp (n + 1) (ns, k, out0)) (hc : (ndAt ns k).kids[i.toNat]? = some c) :
    (putN ns (rSp ns) n (bare ns c) out).length ≤ 1048576 ∧ 1 ≤ (putN ns (rSp ns) n (bare ns c) out).length := by
  obtain ⟨h1, h2, h3, h4⟩ := pkS_pre h hx hc
  have := putN_bd (@rSp_ok ns) (n := n) (k := bare ns c) (out := out) h2 h3
  simp only at h4
  omega
theorem pkZ_no {ns : List Nd} {n : Nat} {k : Int} {out0 : List Nd} {i c : Int} {out : List Nd} {ks : List Int} {z : Nd} (hz : ns[k.toNat]? = some z) (hx : putP rSp (n + 1) (ns, k, out0)) (h : pk ns (rSp ns) n k out0 i out ks)
    (hc : z.kids[i.toNat]? = some c) (hp : (decide (kindAt ns c = 11) && wantsB z i (ndAt ns (bare ns c))) = false) :
    pk ns (rSp ns) n k out0 (i + 1) (putN ns (rSp ns) n (bare ns c) out) (ks ++ [((putN ns (rSp ns) n (bare ns c) out).length : Int) - 1]) := by
  rw [← ndAt_of hz] at hc hp
  exact pkS_no h hx.2.1 (by simpa using hx.2.2.1) hc hp
theorem pkZ_yes {ns : List Nd} {n : Nat} {k : Int} {out0 : List Nd} {i c : Int} {out : List Nd} {ks : List Int} {z : Nd} (hz : ns[k.toNat]? = some z) (hx : putP rSp (n + 1) (ns, k, out0)) (h : pk ns (rSp ns) n k out0 i out ks)
    (hc : z.kids[i.toNat]? = some c) (hp : (decide (kindAt ns c = 11) && wantsB z i (ndAt ns (bare ns c))) = true) :
    pk ns (rSp ns) n k out0 (i + 1) (putN ns (rSp ns) n (bare ns c) out ++ [⟨11, [], [((putN ns (rSp ns) n (bare ns c) out).length : Int) - 1], false⟩]) (ks ++ [((putN ns (rSp ns) n (bare ns c) out).length : Int)]) := by
  rw [← ndAt_of hz] at hc hp
  exact pkS_yes h hx.2.1 (by simpa using hx.2.2.1) hc hp
theorem pkZ_pre {ns : List Nd} {n : Nat} {k : Int} {out0 : List Nd} {i c : Int} {out : List Nd} {ks : List Int} {z : Nd} (hz : ns[k.toNat]? = some z) (hx : putP rSp (n + 1) (ns, k, out0)) (h : pk ns (rSp ns) n k out0 i out ks)
    (hc : z.kids[i.toNat]? = some c) : putP rSp n (ns, bare ns c, out) := by
  rw [← ndAt_of hz] at hc; exact pkS_pre h hx hc
theorem pkZ_bd {ns : List Nd} {n : Nat} {k : Int} {out0 : List Nd} {i c : Int} {out : List Nd} {ks : List Int} {z : Nd} (hz : ns[k.toNat]? = some z) (hx : putP rSp (n + 1) (ns, k, out0)) (h : pk ns (rSp ns) n k out0 i out ks)
    (hc : z.kids[i.toNat]? = some c) : (putN ns (rSp ns) n (bare ns c) out).length ≤ 1048576 ∧ 1 ≤ (putN ns (rSp ns) n (bare ns c) out).length := by
  rw [← ndAt_of hz] at hc; exact pkS_bd h hx hc
theorem pkZ_len {R : List Nd → Rw} {ns : List Nd} {n : Nat} {k : Int} {out0 : List Nd} {i : Int} {out : List Nd} {ks : List Int} {z : Nd} (hz : ns[k.toNat]? = some z) (hx : putP R (n + 1) (ns, k, out0)) (h : pk ns (R ns) n k out0 i out ks) :
    (0 ≤ i ∧ i ≤ z.kids.length) ∧ z.kids.length ≤ 12 ∧ ks.length = i ∧ out.length ≤ 1048576 := by
  have e := ndAt_of hz
  obtain ⟨h1, h2, h3⟩ := pk_bd h hx.2.2.2
  rw [e] at h1
  have h4 := (nodeOk_parts (okUp_at hx.2.1)).2.1
  simp only at h4; rw [e] at h4
  exact ⟨h1, h4, h3, by omega⟩
theorem pkZ_done {R : List Nd → Rw} {ns : List Nd} {n : Nat} {k : Int} {out0 : List Nd} {i : Int} {out : List Nd} {ks : List Int} {z : Nd} (hz : ns[k.toNat]? = some z) (h : pk ns (R ns) n k out0 i out ks) (hl : ¬ i < z.kids.length) (hs : (R ns).stop k = none) :
    out ++ [⟨z.kind, z.text, ks, z.blank⟩] = putN ns (R ns) (n + 1) k out0 := by
  have e := ndAt_of hz
  rw [← e] at hl ⊢
  exact pk_done h hl hs
theorem pkZ_fin {R : List Nd → Rw} {ns : List Nd} {n : Nat} {k : Int} {out0 : List Nd} {i : Int} {out : List Nd} {ks : List Int} {z : Nd} (hz : ns[k.toNat]? = some z) (h : pk ns (R ns) n k out0 i out ks) (hl : ¬ i < z.kids.length) (hs : (R ns).stop k = none) :
    (out.length : Int) = (putN ns (R ns) (n + 1) k out0).length - 1 := by
  rw [← pkZ_done hz h hl hs]; simp
theorem pkZ_kid {R : List Nd → Rw} {ns : List Nd} {n : Nat} {k c : Int} {out0 : List Nd} {j : Nat} {z : Nd} (hz : ns[k.toNat]? = some z) (hx : putP R (n + 1) (ns, k, out0)) (hc : z.kids[j]? = some c) : okUp ns c := by
  rw [← ndAt_of hz] at hc; exact (okUp_kid hx.2.1 (memE hc)).1
def s_mNZ  : Sig := { X := List Nd × Int × List Nd, args := fun x => [.box 0 [nds x.1, onds x.2.2, clSp x.1], .int .i64 x.2.1], pre := fun x => putP rSp 0 x, Y := Unit, post := fun x y => True, res := fun x y => .int .i64 ((putN x.1 (rSp x.1) 0 x.2.1 x.2.2).length - 1), outs := fun x y => [.box 0 [nds x.1, onds (putN x.1 (rSp x.1) 0 x.2.1 x.2.2), clSp x.1], .top], keep := true }
theorem mNZ_vc (x : List Nd × Int × List Nd) : vcFun Go.Proofs.Tryz.prog (Γof []) (Eof []) false (Lof ([])) Go.Proofs.Tryz.f57.ntmps Go.Proofs.Tryz.f57.results.toList (Go.Proofs.Tryz.f57.body.getD .skip) s_mNZ x = (True ∧ ((0 : Int) ≤ x.snd.fst ∧ x.snd.fst < (↑(List.length x.fst) : Int)) ∧ ∀ (e : Nd), x.fst[Int.toNat x.snd.fst]? = some e → False) := by kernel_rfl
theorem mNZ_ok  : Contract G Tryz.prog 57 s_mNZ :=
  vcFun_ok (Γ := Γof []) (E := Eof []) (ov := false) (L := fun x => Lof ([])) Tryz.func57 rfl (by decide) (Γof_ok (l := []) trivial) fun (x : List Nd × Int × List Nd) (hx : putP rSp 0 x) => (mNZ_vc  x).mpr (by
  have h1 := hx.2.2.1; have h2 := isNd_iff.1 hx.2.1.1
  omega)

def lMN (n : Nat) (x : List Nd × Int × List Nd) : LS := {
  ι := Int × List Nd × List Int, inv := fun i => pk x.1 (rSp x.1) n x.2.1 x.2.2 i.1 i.2.1 i.2.2,
  regs := fun i => [(0, .box 0 [nds x.1, onds i.2.1, clSp x.1]), (5, .box 0 (ndA false (ndAt x.1 x.2.1))), (6, oints i.2.2), (20, ints (ndAt x.1 x.2.1).kids), (21, .int .i64 (ndAt x.1 x.2.1).kids.length), (22, .int .i64 i.1)], als := [], meas := fun i => (ndAt x.1 x.2.1).kids.length - i.1.toNat }
def s_mNS (n : Nat) : Sig := { X := List Nd × Int × List Nd, args := fun x => [.box 0 [nds x.1, onds x.2.2, clSp x.1], .int .i64 x.2.1], pre := fun x => putP rSp (n + 1) x, Y := Unit, post := fun x y => True, res := fun x y => .int .i64 ((putN x.1 (rSp x.1) (n + 1) x.2.1 x.2.2).length - 1), outs := fun x y => [.box 0 [nds x.1, onds (putN x.1 (rSp x.1) (n + 1) x.2.1 x.2.2), clSp x.1], .top], keep := true }
theorem mNS_vc (n : Nat) (x : List Nd × Int × List Nd) : vcFun Go.Proofs.Tryz.prog (Γof [(57, 0, (s_mN n)), (115, 0, s_mAddS), (54, 0, s_sp1)]) (Eof [(39, ⟨Int,intA⟩)]) false (Lof ([(4,lMN n x)])) Go.Proofs.Tryz.f57.ntmps Go.Proofs.Tryz.f57.results.toList (Go.Proofs.Tryz.f57.body.getD .skip) (s_mNS n) x = (True ∧ ((0 : Int) ≤ x.snd.fst ∧ x.snd.fst < (↑(List.length x.fst) : Int)) ∧ ∀ (e : Nd), x.fst[Int.toNat x.snd.fst]? = some e → (∃ (i : Int × List Nd × List Int), pk x.fst (rSp x.fst) n x.snd.fst x.snd.snd i.fst i.snd.fst i.snd.snd ∧ (AV.sl false (0 : Nat) (4 : Nat) Nd (ndA false) x.fst = AV.sl false (0 : Nat) (4 : Nat) Nd (ndA false) x.fst ∧ AV.sl true (0 : Nat) (4 : Nat) Nd (ndA true) x.snd.snd = AV.sl true (0 : Nat) (4 : Nat) Nd (ndA true) i.snd.fst ∧ AV.pf [AV.sl false (0 : Nat) (4 : Nat) Nd (ndA false) x.fst] = AV.pf [AV.sl false (0 : Nat) (4 : Nat) Nd (ndA false) x.fst] ∧ e.kind = (ndAt x.fst x.snd.fst).kind ∧ e.text = (ndAt x.fst x.snd.fst).text ∧ AV.sl false (0 : Nat) (1 : Nat) Int intA e.kids = AV.sl false (0 : Nat) (1 : Nat) Int intA (ndAt x.fst x.snd.fst).kids ∧ e.blank = (ndAt x.fst x.snd.fst).blank ∧ i.snd.snd = [] ∧ AV.sl false (0 : Nat) (1 : Nat) Int intA e.kids = AV.sl false (0 : Nat) (1 : Nat) Int intA (ndAt x.fst x.snd.fst).kids ∧ (↑(List.length e.kids) : Int) = (↑(List.length (ndAt x.fst x.snd.fst).kids) : Int) ∧ (0 : Int) = i.fst ∧ True) ∧ True) ∧ ∀ (i : Int × List Nd × List Int), pk x.fst (rSp x.fst) n x.snd.fst x.snd.snd i.fst i.snd.fst i.snd.snd → bcase (decide (i.fst < (↑(List.length (ndAt x.fst x.snd.fst).kids) : Int))) (((0 : Int) ≤ i.fst ∧ i.fst < (↑(List.length (ndAt x.fst x.snd.fst).kids) : Int)) ∧ ∀ (e : Int), (ndAt x.fst x.snd.fst).kids[Int.toNat i.fst]? = some e → true = true ∧ true = true ∧ ∃ (x_1 : List Nd × Nd × Int × Int), (List.length x_1.fst < (4611686018427387904 : Nat) ∧ okUp x_1.fst x_1.snd.snd.snd ∧ List.length x_1.snd.fst.kids < (4611686018427387904 : Nat)) ∧ (ndAt x.fst x.snd.fst).kind = x_1.snd.fst.kind ∧ (ndAt x.fst x.snd.fst).text = x_1.snd.fst.text ∧ AV.sl false (0 : Nat) (1 : Nat) Int intA (ndAt x.fst x.snd.fst).kids = AV.sl false (0 : Nat) (1 : Nat) Int intA x_1.snd.fst.kids ∧ (ndAt x.fst x.snd.fst).blank = x_1.snd.fst.blank ∧ i.fst = x_1.snd.snd.fst ∧ e = x_1.snd.snd.snd ∧ AV.pf [AV.sl false (0 : Nat) (4 : Nat) Nd (ndA false) x.fst] = AV.pf [AV.sl false (0 : Nat) (4 : Nat) Nd (ndA false) x_1.fst] ∧ ∃ (y0 : Unit), (∀ (y : Unit), True → AV.tup [AV.int IntKind.i64 (bare x_1.fst x_1.snd.snd.snd), AV.bool (decide (kindAt x_1.fst x_1.snd.snd.snd = (11 : Int)) && wantsB x_1.snd.fst x_1.snd.snd.fst (ndAt x_1.fst (bare x_1.fst x_1.snd.snd.snd)))] = AV.tup [AV.int IntKind.i64 (bare x_1.fst x_1.snd.snd.snd), AV.bool (decide (kindAt x_1.fst x_1.snd.snd.snd = (11 : Int)) && wantsB x_1.snd.fst x_1.snd.snd.fst (ndAt x_1.fst (bare x_1.fst x_1.snd.snd.snd)))]) ∧ true = true ∧ ∃ (x_2 : List Nd × Int × List Nd), putP rSp n x_2 ∧ AV.sl false (0 : Nat) (4 : Nat) Nd (ndA false) x.fst = AV.sl false (0 : Nat) (4 : Nat) Nd (ndA false) x_2.fst ∧ AV.sl true (0 : Nat) (4 : Nat) Nd (ndA true) i.snd.fst = AV.sl true (0 : Nat) (4 : Nat) Nd (ndA true) x_2.snd.snd ∧ AV.pf [AV.sl false (0 : Nat) (4 : Nat) Nd (ndA false) x.fst] = AV.pf [AV.sl false (0 : Nat) (4 : Nat) Nd (ndA false) x_2.fst] ∧ bare x_1.fst x_1.snd.snd.snd = x_2.snd.fst ∧ ∀ (y : Unit), True → bcase (decide (kindAt x_1.fst x_1.snd.snd.snd = (11 : Int)) && wantsB x_1.snd.fst x_1.snd.snd.fst (ndAt x_1.fst (bare x_1.fst x_1.snd.snd.snd))) (∃ (x_3 : Int), (↑(List.length (putN x_2.fst (rSp x_2.fst) n x_2.snd.fst x_2.snd.snd)) : Int) - (1 : Int) = x_3 ∧ ∃ (x_4 : List Nd × List Nd × Int × List UInt8 × List Int × Bool), List.length x_4.snd.fst ≤ (2097152 : Nat) ∧ AV.sl false (0 : Nat) (4 : Nat) Nd (ndA false) x_2.fst = AV.sl false (0 : Nat) (4 : Nat) Nd (ndA false) x_4.fst ∧ AV.sl true (0 : Nat) (4 : Nat) Nd (ndA true) (putN x_2.fst (rSp x_2.fst) n x_2.snd.fst x_2.snd.snd) = AV.sl true (0 : Nat) (4 : Nat) Nd (ndA true) x_4.snd.fst ∧ AV.pf [AV.sl false (0 : Nat) (4 : Nat) Nd (ndA false) x_2.fst] = AV.pf [AV.sl false (0 : Nat) (4 : Nat) Nd (ndA false) x_4.fst] ∧ (11 : Int) = x_4.snd.snd.fst ∧ #[].toList = x_4.snd.snd.snd.fst ∧ AV.sl true (0 : Nat) (1 : Nat) Int intA [x_3] = AV.sl true (0 : Nat) (1 : Nat) Int intA x_4.snd.snd.snd.snd.fst ∧ false = x_4.snd.snd.snd.snd.snd ∧ ∀ (y : Unit), True → ∃ (x_5 : Int), (↑(List.length x_4.snd.fst) : Int) = x_5 ∧ ∃ (zs : List Int), AV.sl true (0 : Nat) (1 : Nat) Int intA [x_5] = AV.sl true (0 : Nat) (1 : Nat) Int intA zs ∧ leafy intA ∧ room (List.length i.snd.snd + List.length zs) (8 : Nat) ∧ inR IntKind.i64 (i.fst + (1 : Int)) ∧ ∃ (i' : Int × List Nd × List Int), pk x.fst (rSp x.fst) n x.snd.fst x.snd.snd i'.fst i'.snd.fst i'.snd.snd ∧ List.length (ndAt x.fst x.snd.fst).kids - Int.toNat i'.fst < List.length (ndAt x.fst x.snd.fst).kids - Int.toNat i.fst ∧ (AV.sl false (0 : Nat) (4 : Nat) Nd (ndA false) x_4.fst = AV.sl false (0 : Nat) (4 : Nat) Nd (ndA false) x.fst ∧ AV.sl true (0 : Nat) (4 : Nat) Nd (ndA true) (x_4.snd.fst ++ [{ kind := x_4.snd.snd.fst, text := x_4.snd.snd.snd.fst, kids := x_4.snd.snd.snd.snd.fst, blank := x_4.snd.snd.snd.snd.snd }]) = AV.sl true (0 : Nat) (4 : Nat) Nd (ndA true) i'.snd.fst ∧ AV.pf [AV.sl false (0 : Nat) (4 : Nat) Nd (ndA false) x_4.fst] = AV.pf [AV.sl false (0 : Nat) (4 : Nat) Nd (ndA false) x.fst] ∧ (ndAt x.fst x.snd.fst).kind = (ndAt x.fst x.snd.fst).kind ∧ (ndAt x.fst x.snd.fst).text = (ndAt x.fst x.snd.fst).text ∧ AV.sl false (0 : Nat) (1 : Nat) Int intA (ndAt x.fst x.snd.fst).kids = AV.sl false (0 : Nat) (1 : Nat) Int intA (ndAt x.fst x.snd.fst).kids ∧ (ndAt x.fst x.snd.fst).blank = (ndAt x.fst x.snd.fst).blank ∧ AV.sl true (0 : Nat) (1 : Nat) Int intA (i.snd.snd ++ zs) = AV.sl true (0 : Nat) (1 : Nat) Int intA i'.snd.snd ∧ AV.sl false (0 : Nat) (1 : Nat) Int intA (ndAt x.fst x.snd.fst).kids = AV.sl false (0 : Nat) (1 : Nat) Int intA (ndAt x.fst x.snd.fst).kids ∧ (↑(List.length (ndAt x.fst x.snd.fst).kids) : Int) = (↑(List.length (ndAt x.fst x.snd.fst).kids) : Int) ∧ i.fst + (1 : Int) = i'.fst ∧ True) ∧ True) (∃ (x_3 : Int), (↑(List.length (putN x_2.fst (rSp x_2.fst) n x_2.snd.fst x_2.snd.snd)) : Int) - (1 : Int) = x_3 ∧ ∃ (zs : List Int), AV.sl true (0 : Nat) (1 : Nat) Int intA [x_3] = AV.sl true (0 : Nat) (1 : Nat) Int intA zs ∧ leafy intA ∧ room (List.length i.snd.snd + List.length zs) (8 : Nat) ∧ inR IntKind.i64 (i.fst + (1 : Int)) ∧ ∃ (i' : Int × List Nd × List Int), pk x.fst (rSp x.fst) n x.snd.fst x.snd.snd i'.fst i'.snd.fst i'.snd.snd ∧ List.length (ndAt x.fst x.snd.fst).kids - Int.toNat i'.fst < List.length (ndAt x.fst x.snd.fst).kids - Int.toNat i.fst ∧ (AV.sl false (0 : Nat) (4 : Nat) Nd (ndA false) x_2.fst = AV.sl false (0 : Nat) (4 : Nat) Nd (ndA false) x.fst ∧ AV.sl true (0 : Nat) (4 : Nat) Nd (ndA true) (putN x_2.fst (rSp x_2.fst) n x_2.snd.fst x_2.snd.snd) = AV.sl true (0 : Nat) (4 : Nat) Nd (ndA true) i'.snd.fst ∧ AV.pf [AV.sl false (0 : Nat) (4 : Nat) Nd (ndA false) x_2.fst] = AV.pf [AV.sl false (0 : Nat) (4 : Nat) Nd (ndA false) x.fst] ∧ (ndAt x.fst x.snd.fst).kind = (ndAt x.fst x.snd.fst).kind ∧ (ndAt x.fst x.snd.fst).text = (ndAt x.fst x.snd.fst).text ∧ AV.sl false (0 : Nat) (1 : Nat) Int intA (ndAt x.fst x.snd.fst).kids = AV.sl false (0 : Nat) (1 : Nat) Int intA (ndAt x.fst x.snd.fst).kids ∧ (ndAt x.fst x.snd.fst).blank = (ndAt x.fst x.snd.fst).blank ∧ AV.sl true (0 : Nat) (1 : Nat) Int intA (i.snd.snd ++ zs) = AV.sl true (0 : Nat) (1 : Nat) Int intA i'.snd.snd ∧ AV.sl false (0 : Nat) (1 : Nat) Int intA (ndAt x.fst x.snd.fst).kids = AV.sl false (0 : Nat) (1 : Nat) Int intA (ndAt x.fst x.snd.fst).kids ∧ (↑(List.length (ndAt x.fst x.snd.fst).kids) : Int) = (↑(List.length (ndAt x.fst x.snd.fst).kids) : Int) ∧ i.fst + (1 : Int) = i'.fst ∧ True) ∧ True)) (∃ (x_1 : List Nd × List Nd × Int × List UInt8 × List Int × Bool), List.length x_1.snd.fst ≤ (2097152 : Nat) ∧ AV.sl false (0 : Nat) (4 : Nat) Nd (ndA false) x.fst = AV.sl false (0 : Nat) (4 : Nat) Nd (ndA false) x_1.fst ∧ AV.sl true (0 : Nat) (4 : Nat) Nd (ndA true) i.snd.fst = AV.sl true (0 : Nat) (4 : Nat) Nd (ndA true) x_1.snd.fst ∧ AV.pf [AV.sl false (0 : Nat) (4 : Nat) Nd (ndA false) x.fst] = AV.pf [AV.sl false (0 : Nat) (4 : Nat) Nd (ndA false) x_1.fst] ∧ (ndAt x.fst x.snd.fst).kind = x_1.snd.snd.fst ∧ (ndAt x.fst x.snd.fst).text = x_1.snd.snd.snd.fst ∧ AV.sl true (0 : Nat) (1 : Nat) Int intA i.snd.snd = AV.sl true (0 : Nat) (1 : Nat) Int intA x_1.snd.snd.snd.snd.fst ∧ (ndAt x.fst x.snd.fst).blank = x_1.snd.snd.snd.snd.snd ∧ ∀ (y : Unit), True → ∃ (y : Unit), True ∧ (↑(List.length x_1.snd.fst) : Int) = (↑(List.length (putN x.fst (rSp x.fst) (n + (1 : Nat)) x.snd.fst x.snd.snd)) : Int) - (1 : Int) ∧ AV.sl false (0 : Nat) (4 : Nat) Nd (ndA false) x_1.fst = AV.sl false (0 : Nat) (4 : Nat) Nd (ndA false) x.fst ∧ AV.sl true (0 : Nat) (4 : Nat) Nd (ndA true) (x_1.snd.fst ++ [{ kind := x_1.snd.snd.fst, text := x_1.snd.snd.snd.fst, kids := x_1.snd.snd.snd.snd.fst, blank := x_1.snd.snd.snd.snd.snd }]) = AV.sl true (0 : Nat) (4 : Nat) Nd (ndA true) (putN x.fst (rSp x.fst) (n + (1 : Nat)) x.snd.fst x.snd.snd) ∧ AV.pf [AV.sl false (0 : Nat) (4 : Nat) Nd (ndA false) x_1.fst] = AV.pf [AV.sl false (0 : Nat) (4 : Nat) Nd (ndA false) x.fst] ∧ True)) := by kernel_rfl
set_option maxHeartbeats 4000000 in
theorem mNS_ok (n : Nat) (hc : Contract G Go.Proofs.Tryz.prog 57 (s_mN n)) : Contract G Tryz.prog 57 (s_mNS n) :=
  vcFun_ok (Γ := Γof [(57, 0, (s_mN n)), (115, 0, s_mAddS), (54, 0, s_sp1)]) (E := Eof [(39, ⟨Int,intA⟩)]) (ov := false) (L := fun x => Lof ([(4,lMN n x)])) Tryz.func57 rfl (by decide) (Γof_ok (l := [(57, 0, (s_mN n)), (115, 0, s_mAddS), (54, 0, s_sp1)]) ⟨hc, mAddS_ok, sp1_ok, trivial⟩) fun (x : List Nd × Int × List Nd) (hx : putP rSp (n + 1) x) => (mNS_vc n x).mpr (by
  have h1 := hx.1; have hl := h1.1; have hu := hx.2.1; have hn := isNd_iff.1 hu.1
  obtain ⟨z, hz⟩ : ∃ z, x.1[x.2.1.toNat]? = some z := ⟨x.1[x.2.1.toNat], by simp⟩
  simp only [hz, Option.some.injEq, forall_eq', ndAt_of hz]
  (repeat' first | with_reducible rfl | exact True.intro | refine inR_i64 ?_ ?_ | with_reducible refine And.intro ?_ ?_ | with_reducible refine bcase_dec (fun _ => ?_) (fun _ => ?_) | with_reducible refine bcase_bne (fun _ => ?_) (fun _ => ?_) | with_reducible refine bcase_beq (fun _ => ?_) (fun _ => ?_) | with_reducible refine bcase_not (fun _ => ?_) (fun _ => ?_) | refine bcase_intro (fun _ => ?_) (fun _ => ?_) | refine sl_eq ?_ | refine ex_flip () ?_ ?_ | (apply ex_flip6 <;> try dsimp only) | (apply ex_flip5 <;> try dsimp only) | (apply ex_flip4 <;> try dsimp only) | (apply ex_flip3 <;> try dsimp only) | (apply ex_flip2 <;> try dsimp only) | apply ex_flip | (refine Prod.forall.2 ?_; intro _; try dsimp only) | (intro _; try dsimp only))
  all_goals first
    | rfl
    | omega
    | exact pk_init
    | exact hl
    | exact pkZ_no hz hx (by assumption) (by assumption) (by assumption)
    | exact pkZ_yes hz hx (by assumption) (by assumption) (by assumption)
    | exact pkZ_pre hz hx (by assumption) (by assumption)
    | exact pkZ_done hz (by assumption) (by assumption) rfl
    | exact pkZ_fin hz (by assumption) (by assumption) rfl
    | exact pkZ_kid hz hx (by assumption)
    | (have hq := pkZ_len hz hx (by assumption); (try simp only [i64max, room, List.length_append, List.length_cons, List.length_nil]); omega)
    | (have hq := pkZ_len hz hx (by assumption); have hq2 := pkZ_bd hz hx (by assumption) (by assumption); (try simp only [i64max, room, List.length_append, List.length_cons, List.length_nil]); omega)
    | skip)

theorem mN_all : ∀ n : Nat, Contract G Go.Proofs.Tryz.prog 57 (s_mN n)
  | 0 => mNZ_ok
  | n + 1 => mNS_ok n (mN_all n)
end Go.My
end
section
/- Brackets that are spared: the reference's functions, and what both return. -/
set_option linter.unusedVariables false
set_option linter.unusedSimpArgs false
namespace Go.My
open Go.Eng Go.Proofs
variable {G : GInv}

def s_lP (n : Nat) : Sig := { X := List Nd × Int × List Nd, args := fun x => [nds x.1, .int .i64 x.2.1, onds x.2.2], pre := fun x => putP rSp n x, Y := Unit, post := fun x y => True, res := fun x y => .tup [onds (putN x.1 (rSp x.1) n x.2.1 x.2.2), .int .i64 ((putN x.1 (rSp x.1) n x.2.1 x.2.2).length - 1)], outs := fun x y => [.top, .top, .top], keep := false }
def s_lPZ  : Sig := { X := List Nd × Int × List Nd, args := fun x => [nds x.1, .int .i64 x.2.1, onds x.2.2], pre := fun x => putP rSp 0 x, Y := Unit, post := fun x y => True, res := fun x y => .tup [onds (putN x.1 (rSp x.1) 0 x.2.1 x.2.2), .int .i64 ((putN x.1 (rSp x.1) 0 x.2.1 x.2.2).length - 1)], outs := fun x y => [.top, .top, .top], keep := false }
theorem lPZ_vc (x : List Nd × Int × List Nd) : vcFun Go.Proofs.Tryz.prog (Γof []) (Eof []) false (Lof ([])) Go.Proofs.Tryz.f50.ntmps Go.Proofs.Tryz.f50.results.toList (Go.Proofs.Tryz.f50.body.getD .skip) s_lPZ x = ((∀ (y : Unit), True → ((∀ (x : Nd), True ∧ True ∧ (∀ (x : Int), True ∧ True) ∧ True ∧ True) ∧ True ∧ True) ∧ True ∧ True ∧ True ∧ True) ∧ true = true ∧ true = true ∧ ((0 : Int) ≤ x.snd.fst ∧ x.snd.fst < (↑(List.length x.fst) : Int)) ∧ ∀ (e : Nd), x.fst[Int.toNat x.snd.fst]? = some e → ((0 : Int) ≤ x.snd.fst ∧ x.snd.fst < (↑(List.length x.fst) : Int)) ∧ ∀ (e : Nd), x.fst[Int.toNat x.snd.fst]? = some e → ((0 : Int) ≤ x.snd.fst ∧ x.snd.fst < (↑(List.length x.fst) : Int)) ∧ ∀ (e : Nd), x.fst[Int.toNat x.snd.fst]? = some e → False) := by kernel_rfl
theorem lPZ_ok  : Contract G Tryz.prog 50 s_lPZ :=
  vcFun_ok (Γ := Γof []) (E := Eof []) (ov := false) (L := fun x => Lof ([])) Tryz.func50 rfl (by decide) (Γof_ok (l := []) trivial) fun (x : List Nd × Int × List Nd) (hx : putP rSp 0 x) => (lPZ_vc  x).mpr (by
  have h1 := hx.2.2.1; have h2 := isNd_iff.1 hx.2.1.1
  omega)

def lLP (n : Nat) (x : List Nd × Int × List Nd) : LS := {
  ι := Int × List Nd × List Int, inv := fun i => pk x.1 (rSp x.1) n x.2.1 x.2.2 i.1 i.2.1 i.2.2,
  regs := fun i => [(0, nds x.1), (1, .int .i64 x.2.1), (2, onds i.2.1), (8, .box 0 [.int .i64 (ndAt x.1 x.2.1).kind, .str (ndAt x.1 x.2.1).text, oints i.2.2, .bool (ndAt x.1 x.2.1).blank]), (9, .int .i64 i.1)], als := [], meas := fun i => (ndAt x.1 x.2.1).kids.length - i.1.toNat }
def lLPC (x : List Nd × Int × List Nd) : LS := {
  ι := Unit, inv := fun _ => True,
  regs := fun _ => [(0, nds x.1), (1, .int .i64 x.2.1), (2, onds x.2.2), (8, .box 0 [.int .i64 (ndAt x.1 x.2.1).kind, .str (ndAt x.1 x.2.1).text, oints [], .bool (ndAt x.1 x.2.1).blank])], als := [], meas := fun _ => 0 }
theorem pkZ_same {ns : List Nd} {n : Nat} {k : Int} {out0 : List Nd} {i c : Int} {out : List Nd} {ks : List Int} {z : Nd} (hz : ns[k.toNat]? = some z) (hx : putP rSp (n + 1) (ns, k, out0)) (h : pk ns (rSp ns) n k out0 i out ks)
    (hc : z.kids[i.toNat]? = some c) (hb : bare ns c = c) :
    pk ns (rSp ns) n k out0 (i + 1) (putN ns (rSp ns) n c out) (ks ++ [((putN ns (rSp ns) n c out).length : Int) - 1]) := by
  have hu := pkZ_kid hz hx hc
  have := pkZ_no hz hx h hc (by
    have h3 := (bare_ok (c.toNat + 1) (k := c) (by omega) hu).2.2.1
    rw [hb] at h3; simp [h3])
  rwa [hb] at this
theorem bare_diff {ns : List Nd} {c : Int} (hb : bare ns c ≠ c) : kindAt ns c = 11 := by
  by_cases h : (ndAt ns c).kind = 11
  · exact h
  · exact (hb (bare_ne h)).elim
theorem pkZ_wno {ns : List Nd} {n : Nat} {k : Int} {out0 : List Nd} {i c : Int} {out : List Nd} {ks : List Int} {z y : Nd} (hz : ns[k.toNat]? = some z) (hx : putP rSp (n + 1) (ns, k, out0)) (h : pk ns (rSp ns) n k out0 i out ks)
    (hc : z.kids[i.toNat]? = some c) (hb : bare ns c ≠ c) (hy : ns[(bare ns c).toNat]? = some y) (hw : wantsB z i y = false) :
    pk ns (rSp ns) n k out0 (i + 1) (putN ns (rSp ns) n (bare ns c) out) (ks ++ [((putN ns (rSp ns) n (bare ns c) out).length : Int) - 1]) :=
  pkZ_no hz hx h hc (by rw [ndAt_of hy, hw]; simp)
theorem pkZ_wyes {ns : List Nd} {n : Nat} {k : Int} {out0 : List Nd} {i c : Int} {out : List Nd} {ks : List Int} {z y : Nd} (hz : ns[k.toNat]? = some z) (hx : putP rSp (n + 1) (ns, k, out0)) (h : pk ns (rSp ns) n k out0 i out ks)
    (hc : z.kids[i.toNat]? = some c) (hb : bare ns c ≠ c) (hy : ns[(bare ns c).toNat]? = some y) (hw : wantsB z i y = true) :
    pk ns (rSp ns) n k out0 (i + 1) (putN ns (rSp ns) n (bare ns c) out ++ [⟨11, [], [((putN ns (rSp ns) n (bare ns c) out).length : Int) - 1], false⟩])
      (ks ++ [((putN ns (rSp ns) n (bare ns c) out ++ [(⟨11, [], [((putN ns (rSp ns) n (bare ns c) out).length : Int) - 1], false⟩ : Nd)]).length : Int) - 1]) := by
  have := pkZ_yes hz hx h hc (by rw [ndAt_of hy, hw, bare_diff hb]; rfl)
  simpa using this
theorem pkZ_bare {ns : List Nd} {n : Nat} {k : Int} {out0 : List Nd} {c : Int} {j : Nat} {z : Nd} (hz : ns[k.toNat]? = some z) (hx : putP rSp (n + 1) (ns, k, out0)) (hc : z.kids[j]? = some c) :
    okUp ns (bare ns c) ∧ 0 ≤ bare ns c ∧ bare ns c < ns.length := by
  have hu := pkZ_kid hz hx hc
  have h3 := (bare_ok (c.toNat + 1) (k := c) (by omega) hu).1
  exact ⟨h3, isNd_iff.1 h3.1⟩
theorem chZ {ns : List Nd} {k : Int} {z : Nd} (hz : ns[k.toNat]? = some z) (hu : okUp ns k) : chOk z := by rw [← ndAt_of hz]; exact chOk_of hu
theorem ex_ndp {a : Int} {b : List UInt8} {c : List Int} {d : Bool} {o : Bool} {i : Nat} {q : Nd → Prop} (h : q ⟨a, b, c, d⟩) : ∃ x : Nd, a = x.kind ∧ b = x.text ∧ AV.sl o i 1 Int intA c = AV.sl o i 1 Int intA x.kids ∧ d = x.blank ∧ q x := ⟨⟨a, b, c, d⟩, rfl, rfl, rfl, rfl, h⟩
def s_lPS (n : Nat) : Sig := { X := List Nd × Int × List Nd, args := fun x => [nds x.1, .int .i64 x.2.1, onds x.2.2], pre := fun x => putP rSp (n + 1) x, Y := Unit, post := fun x y => True, res := fun x y => .tup [onds (putN x.1 (rSp x.1) (n + 1) x.2.1 x.2.2), .int .i64 ((putN x.1 (rSp x.1) (n + 1) x.2.1 x.2.2).length - 1)], outs := fun x y => [.top, .top, .top], keep := false }
theorem lPS_vc (n : Nat) (x : List Nd × Int × List Nd) : vcFun Go.Proofs.Tryz.prog (Γof [(50, 0, (s_lP n)), (108, 0, s_sBare), (109, 0, s_l23Wants)]) (Eof [(39, ⟨Int,intA⟩), (24, ⟨Nd,ndA true⟩)]) false (Lof ([(3,lLP n x), (100001,lLPC x), (300015,lLPC x)])) Go.Proofs.Tryz.f50.ntmps Go.Proofs.Tryz.f50.results.toList (Go.Proofs.Tryz.f50.body.getD .skip) (s_lPS n) x = ((∀ (y : Unit), True → ((∀ (x : Nd), True ∧ True ∧ (∀ (x : Int), True ∧ True) ∧ True ∧ True) ∧ True ∧ True) ∧ True ∧ True ∧ True ∧ True) ∧ true = true ∧ (((0 : Int) ≤ x.snd.fst ∧ x.snd.fst < (↑(List.length x.fst) : Int)) ∧ ∀ (e : Nd), x.fst[Int.toNat x.snd.fst]? = some e → ((0 : Int) ≤ x.snd.fst ∧ x.snd.fst < (↑(List.length x.fst) : Int)) ∧ ∀ (e_1 : Nd), x.fst[Int.toNat x.snd.fst]? = some e_1 → ((0 : Int) ≤ x.snd.fst ∧ x.snd.fst < (↑(List.length x.fst) : Int)) ∧ ∀ (e_2 : Nd), x.fst[Int.toNat x.snd.fst]? = some e_2 → ((true = true ∧ ∃ (i : Unit), True ∧ (AV.sl false (0 : Nat) (4 : Nat) Nd (ndA false) x.fst = AV.sl false (0 : Nat) (4 : Nat) Nd (ndA false) x.fst ∧ x.snd.fst = x.snd.fst ∧ AV.sl true (0 : Nat) (4 : Nat) Nd (ndA true) x.snd.snd = AV.sl true (0 : Nat) (4 : Nat) Nd (ndA true) x.snd.snd ∧ e.kind = (ndAt x.fst x.snd.fst).kind ∧ e_1.text = (ndAt x.fst x.snd.fst).text ∧ AV.sl true (0 : Nat) (1 : Nat) Int intA [] = AV.sl true (0 : Nat) (1 : Nat) Int intA [] ∧ e_2.blank = (ndAt x.fst x.snd.fst).blank ∧ True) ∧ True) ∧ true = true ∧ ∃ (i : Unit), True ∧ (AV.sl false (0 : Nat) (4 : Nat) Nd (ndA false) x.fst = AV.sl false (0 : Nat) (4 : Nat) Nd (ndA false) x.fst ∧ x.snd.fst = x.snd.fst ∧ AV.sl true (0 : Nat) (4 : Nat) Nd (ndA true) x.snd.snd = AV.sl true (0 : Nat) (4 : Nat) Nd (ndA true) x.snd.snd ∧ e.kind = (ndAt x.fst x.snd.fst).kind ∧ e_1.text = (ndAt x.fst x.snd.fst).text ∧ AV.sl true (0 : Nat) (1 : Nat) Int intA [] = AV.sl true (0 : Nat) (1 : Nat) Int intA [] ∧ e_2.blank = (ndAt x.fst x.snd.fst).blank ∧ True) ∧ True) ∧ true = true ∧ ∃ (i : Unit), True ∧ (AV.sl false (0 : Nat) (4 : Nat) Nd (ndA false) x.fst = AV.sl false (0 : Nat) (4 : Nat) Nd (ndA false) x.fst ∧ x.snd.fst = x.snd.fst ∧ AV.sl true (0 : Nat) (4 : Nat) Nd (ndA true) x.snd.snd = AV.sl true (0 : Nat) (4 : Nat) Nd (ndA true) x.snd.snd ∧ e.kind = (ndAt x.fst x.snd.fst).kind ∧ e_1.text = (ndAt x.fst x.snd.fst).text ∧ AV.sl true (0 : Nat) (1 : Nat) Int intA [] = AV.sl true (0 : Nat) (1 : Nat) Int intA [] ∧ e_2.blank = (ndAt x.fst x.snd.fst).blank ∧ True) ∧ True) ∧ ∀ (i : Unit), True → (∃ (i : Int × List Nd × List Int), pk x.fst (rSp x.fst) n x.snd.fst x.snd.snd i.fst i.snd.fst i.snd.snd ∧ (AV.sl false (0 : Nat) (4 : Nat) Nd (ndA false) x.fst = AV.sl false (0 : Nat) (4 : Nat) Nd (ndA false) x.fst ∧ x.snd.fst = x.snd.fst ∧ AV.sl true (0 : Nat) (4 : Nat) Nd (ndA true) x.snd.snd = AV.sl true (0 : Nat) (4 : Nat) Nd (ndA true) i.snd.fst ∧ (ndAt x.fst x.snd.fst).kind = (ndAt x.fst x.snd.fst).kind ∧ (ndAt x.fst x.snd.fst).text = (ndAt x.fst x.snd.fst).text ∧ AV.sl true (0 : Nat) (1 : Nat) Int intA [] = AV.sl true (0 : Nat) (1 : Nat) Int intA i.snd.snd ∧ (ndAt x.fst x.snd.fst).blank = (ndAt x.fst x.snd.fst).blank ∧ (0 : Int) = i.fst ∧ True) ∧ True) ∧ ∀ (i : Int × List Nd × List Int), pk x.fst (rSp x.fst) n x.snd.fst x.snd.snd i.fst i.snd.fst i.snd.snd → ((0 : Int) ≤ x.snd.fst ∧ x.snd.fst < (↑(List.length x.fst) : Int)) ∧ ∀ (e : Nd), x.fst[Int.toNat x.snd.fst]? = some e → bcase (decide (i.fst < (↑(List.length e.kids) : Int))) (((0 : Int) ≤ x.snd.fst ∧ x.snd.fst < (↑(List.length x.fst) : Int)) ∧ ∀ (e : Nd), x.fst[Int.toNat x.snd.fst]? = some e → ((0 : Int) ≤ i.fst ∧ i.fst < (↑(List.length e.kids) : Int)) ∧ ∀ (e_1 : Int), e.kids[Int.toNat i.fst]? = some e_1 → ∃ (x_1 : List Nd × Int), (List.length x_1.fst < (4611686018427387904 : Nat) ∧ okUp x_1.fst x_1.snd) ∧ AV.sl false (0 : Nat) (4 : Nat) Nd (ndA false) x.fst = AV.sl false (0 : Nat) (4 : Nat) Nd (ndA false) x_1.fst ∧ e_1 = x_1.snd ∧ ∀ (y : Unit), True → bcase (bare x_1.fst x_1.snd == e_1) (∃ (x_2 : List Nd × Int × List Nd), putP rSp n x_2 ∧ AV.sl true (0 : Nat) (4 : Nat) Nd (ndA true) i.snd.fst = AV.sl true (0 : Nat) (4 : Nat) Nd (ndA true) x_2.snd.snd ∧ AV.sl false (0 : Nat) (4 : Nat) Nd (ndA false) x.fst = AV.sl false (0 : Nat) (4 : Nat) Nd (ndA false) x_2.fst ∧ e_1 = x_2.snd.fst ∧ ∀ (y : Unit), True → ∃ (x_3 : Int), (↑(List.length (putN x_2.fst (rSp x_2.fst) n x_2.snd.fst x_2.snd.snd)) : Int) - (1 : Int) = x_3 ∧ ∃ (zs : List Int), AV.sl true (0 : Nat) (1 : Nat) Int intA [x_3] = AV.sl true (0 : Nat) (1 : Nat) Int intA zs ∧ leafy intA ∧ room (List.length i.snd.snd + List.length zs) (8 : Nat) ∧ inR IntKind.i64 (i.fst + (1 : Int)) ∧ ∃ (i' : Int × List Nd × List Int), pk x.fst (rSp x.fst) n x.snd.fst x.snd.snd i'.fst i'.snd.fst i'.snd.snd ∧ List.length (ndAt x.fst x.snd.fst).kids - Int.toNat i'.fst < List.length (ndAt x.fst x.snd.fst).kids - Int.toNat i.fst ∧ (AV.sl false (0 : Nat) (4 : Nat) Nd (ndA false) x.fst = AV.sl false (0 : Nat) (4 : Nat) Nd (ndA false) x.fst ∧ x.snd.fst = x.snd.fst ∧ AV.sl true (0 : Nat) (4 : Nat) Nd (ndA true) (putN x_2.fst (rSp x_2.fst) n x_2.snd.fst x_2.snd.snd) = AV.sl true (0 : Nat) (4 : Nat) Nd (ndA true) i'.snd.fst ∧ (ndAt x.fst x.snd.fst).kind = (ndAt x.fst x.snd.fst).kind ∧ (ndAt x.fst x.snd.fst).text = (ndAt x.fst x.snd.fst).text ∧ AV.sl true (0 : Nat) (1 : Nat) Int intA (i.snd.snd ++ zs) = AV.sl true (0 : Nat) (1 : Nat) Int intA i'.snd.snd ∧ (ndAt x.fst x.snd.fst).blank = (ndAt x.fst x.snd.fst).blank ∧ i.fst + (1 : Int) = i'.fst ∧ True) ∧ True) (∃ (x_2 : List Nd × Int × List Nd), putP rSp n x_2 ∧ AV.sl true (0 : Nat) (4 : Nat) Nd (ndA true) i.snd.fst = AV.sl true (0 : Nat) (4 : Nat) Nd (ndA true) x_2.snd.snd ∧ AV.sl false (0 : Nat) (4 : Nat) Nd (ndA false) x.fst = AV.sl false (0 : Nat) (4 : Nat) Nd (ndA false) x_2.fst ∧ bare x_1.fst x_1.snd = x_2.snd.fst ∧ ∀ (y : Unit), True → true = true ∧ true = true ∧ ((0 : Int) ≤ x.snd.fst ∧ x.snd.fst < (↑(List.length x.fst) : Int)) ∧ ∀ (e : Nd), x.fst[Int.toNat x.snd.fst]? = some e → ((0 : Int) ≤ bare x_1.fst x_1.snd ∧ bare x_1.fst x_1.snd < (↑(List.length x.fst) : Int)) ∧ ∀ (e_2 : Nd), x.fst[Int.toNat (bare x_1.fst x_1.snd)]? = some e_2 → ∃ (x_3 : Nd × Int × Nd), (List.length x_3.fst.kids < (4611686018427387904 : Nat) ∧ ((0 : Int) ≤ x_3.snd.fst ∧ x_3.snd.fst < (↑(List.length x_3.fst.kids) : Int)) ∧ chOk x_3.fst ∧ chOk x_3.snd.snd) ∧ e.kind = x_3.fst.kind ∧ e.text = x_3.fst.text ∧ AV.sl false (0 : Nat) (1 : Nat) Int intA e.kids = AV.sl false (0 : Nat) (1 : Nat) Int intA x_3.fst.kids ∧ e.blank = x_3.fst.blank ∧ i.fst = x_3.snd.fst ∧ e_2.kind = x_3.snd.snd.kind ∧ e_2.text = x_3.snd.snd.text ∧ AV.sl false (0 : Nat) (1 : Nat) Int intA e_2.kids = AV.sl false (0 : Nat) (1 : Nat) Int intA x_3.snd.snd.kids ∧ e_2.blank = x_3.snd.snd.blank ∧ ∃ (y0 : Unit), (∀ (y : Unit), True → AV.bool (wantsB x_3.fst x_3.snd.fst x_3.snd.snd) = AV.bool (wantsB x_3.fst x_3.snd.fst x_3.snd.snd)) ∧ true = true ∧ bcase (wantsB x_3.fst x_3.snd.fst x_3.snd.snd) (∃ (x_4 : Int), (↑(List.length (putN x_2.fst (rSp x_2.fst) n x_2.snd.fst x_2.snd.snd)) : Int) - (1 : Int) = x_4 ∧ ∃ (x_5 : Nd), (11 : Int) = x_5.kind ∧ #[].toList = x_5.text ∧ AV.sl true (0 : Nat) (1 : Nat) Int intA [x_4] = AV.sl true (0 : Nat) (1 : Nat) Int intA x_5.kids ∧ false = x_5.blank ∧ ∃ (zs : List Nd), AV.sl true (0 : Nat) (4 : Nat) Nd (ndA true) [x_5] = AV.sl true (0 : Nat) (4 : Nat) Nd (ndA true) zs ∧ leafy (ndA true) ∧ room (List.length (putN x_2.fst (rSp x_2.fst) n x_2.snd.fst x_2.snd.snd) + List.length zs) (56 : Nat) ∧ inR IntKind.i64 ((↑(List.length (putN x_2.fst (rSp x_2.fst) n x_2.snd.fst x_2.snd.snd ++ zs)) : Int) - (1 : Int)) ∧ ∃ (x_6 : Int), (↑(List.length (putN x_2.fst (rSp x_2.fst) n x_2.snd.fst x_2.snd.snd ++ zs)) : Int) - (1 : Int) = x_6 ∧ ∃ (zs_1 : List Int), AV.sl true (0 : Nat) (1 : Nat) Int intA [x_6] = AV.sl true (0 : Nat) (1 : Nat) Int intA zs_1 ∧ leafy intA ∧ room (List.length i.snd.snd + List.length zs_1) (8 : Nat) ∧ inR IntKind.i64 (i.fst + (1 : Int)) ∧ ∃ (i' : Int × List Nd × List Int), pk x.fst (rSp x.fst) n x.snd.fst x.snd.snd i'.fst i'.snd.fst i'.snd.snd ∧ List.length (ndAt x.fst x.snd.fst).kids - Int.toNat i'.fst < List.length (ndAt x.fst x.snd.fst).kids - Int.toNat i.fst ∧ (AV.sl false (0 : Nat) (4 : Nat) Nd (ndA false) x.fst = AV.sl false (0 : Nat) (4 : Nat) Nd (ndA false) x.fst ∧ x.snd.fst = x.snd.fst ∧ AV.sl true (0 : Nat) (4 : Nat) Nd (ndA true) (putN x_2.fst (rSp x_2.fst) n x_2.snd.fst x_2.snd.snd ++ zs) = AV.sl true (0 : Nat) (4 : Nat) Nd (ndA true) i'.snd.fst ∧ (ndAt x.fst x.snd.fst).kind = (ndAt x.fst x.snd.fst).kind ∧ (ndAt x.fst x.snd.fst).text = (ndAt x.fst x.snd.fst).text ∧ AV.sl true (0 : Nat) (1 : Nat) Int intA (i.snd.snd ++ zs_1) = AV.sl true (0 : Nat) (1 : Nat) Int intA i'.snd.snd ∧ (ndAt x.fst x.snd.fst).blank = (ndAt x.fst x.snd.fst).blank ∧ i.fst + (1 : Int) = i'.fst ∧ True) ∧ True) (∃ (x_4 : Int), (↑(List.length (putN x_2.fst (rSp x_2.fst) n x_2.snd.fst x_2.snd.snd)) : Int) - (1 : Int) = x_4 ∧ ∃ (zs : List Int), AV.sl true (0 : Nat) (1 : Nat) Int intA [x_4] = AV.sl true (0 : Nat) (1 : Nat) Int intA zs ∧ leafy intA ∧ room (List.length i.snd.snd + List.length zs) (8 : Nat) ∧ inR IntKind.i64 (i.fst + (1 : Int)) ∧ ∃ (i' : Int × List Nd × List Int), pk x.fst (rSp x.fst) n x.snd.fst x.snd.snd i'.fst i'.snd.fst i'.snd.snd ∧ List.length (ndAt x.fst x.snd.fst).kids - Int.toNat i'.fst < List.length (ndAt x.fst x.snd.fst).kids - Int.toNat i.fst ∧ (AV.sl false (0 : Nat) (4 : Nat) Nd (ndA false) x.fst = AV.sl false (0 : Nat) (4 : Nat) Nd (ndA false) x.fst ∧ x.snd.fst = x.snd.fst ∧ AV.sl true (0 : Nat) (4 : Nat) Nd (ndA true) (putN x_2.fst (rSp x_2.fst) n x_2.snd.fst x_2.snd.snd) = AV.sl true (0 : Nat) (4 : Nat) Nd (ndA true) i'.snd.fst ∧ (ndAt x.fst x.snd.fst).kind = (ndAt x.fst x.snd.fst).kind ∧ (ndAt x.fst x.snd.fst).text = (ndAt x.fst x.snd.fst).text ∧ AV.sl true (0 : Nat) (1 : Nat) Int intA (i.snd.snd ++ zs) = AV.sl true (0 : Nat) (1 : Nat) Int intA i'.snd.snd ∧ (ndAt x.fst x.snd.fst).blank = (ndAt x.fst x.snd.fst).blank ∧ i.fst + (1 : Int) = i'.fst ∧ True) ∧ True))) (true = true ∧ ∃ (x_1 : Nd), (ndAt x.fst x.snd.fst).kind = x_1.kind ∧ (ndAt x.fst x.snd.fst).text = x_1.text ∧ AV.sl true (0 : Nat) (1 : Nat) Int intA i.snd.snd = AV.sl true (0 : Nat) (1 : Nat) Int intA x_1.kids ∧ (ndAt x.fst x.snd.fst).blank = x_1.blank ∧ ∃ (zs : List Nd), AV.sl true (0 : Nat) (4 : Nat) Nd (ndA true) [x_1] = AV.sl true (0 : Nat) (4 : Nat) Nd (ndA true) zs ∧ leafy (ndA true) ∧ room (List.length i.snd.fst + List.length zs) (56 : Nat) ∧ ∃ (y : Unit), True ∧ AV.sl true (0 : Nat) (4 : Nat) Nd (ndA true) (i.snd.fst ++ zs) = AV.sl true (0 : Nat) (4 : Nat) Nd (ndA true) (putN x.fst (rSp x.fst) (n + (1 : Nat)) x.snd.fst x.snd.snd) ∧ (↑(List.length i.snd.fst) : Int) = (↑(List.length (putN x.fst (rSp x.fst) (n + (1 : Nat)) x.snd.fst x.snd.snd)) : Int) - (1 : Int) ∧ True)) := by kernel_rfl
set_option maxHeartbeats 4000000 in
theorem lPS_ok (n : Nat) (hc : Contract G Go.Proofs.Tryz.prog 50 (s_lP n)) : Contract G Tryz.prog 50 (s_lPS n) :=
  vcFun_ok (Γ := Γof [(50, 0, (s_lP n)), (108, 0, s_sBare), (109, 0, s_l23Wants)]) (E := Eof [(39, ⟨Int,intA⟩), (24, ⟨Nd,ndA true⟩)]) (ov := false) (L := fun x => Lof ([(3,lLP n x), (100001,lLPC x), (300015,lLPC x)])) Tryz.func50 rfl (by decide) (Γof_ok (l := [(50, 0, (s_lP n)), (108, 0, s_sBare), (109, 0, s_l23Wants)]) ⟨hc, sBare_ok, l23Wants_ok, trivial⟩) fun (x : List Nd × Int × List Nd) (hx : putP rSp (n + 1) x) => (lPS_vc n x).mpr (by
  have h1 := hx.1; have hl := h1.1; have hu := hx.2.1; have hn := isNd_iff.1 hu.1
  obtain ⟨z, hz⟩ : ∃ z, x.1[x.2.1.toNat]? = some z := ⟨x.1[x.2.1.toNat], by simp⟩
  simp only [hz, Option.some.injEq, forall_eq', ndAt_of hz]
  (repeat' first | refine ex_ndp ?_ | with_reducible rfl | exact True.intro | refine inR_i64 ?_ ?_ | with_reducible refine And.intro ?_ ?_ | with_reducible refine bcase_dec (fun _ => ?_) (fun _ => ?_) | with_reducible refine bcase_bne (fun _ => ?_) (fun _ => ?_) | with_reducible refine bcase_beq (fun _ => ?_) (fun _ => ?_) | with_reducible refine bcase_not (fun _ => ?_) (fun _ => ?_) | refine bcase_intro (fun _ => ?_) (fun _ => ?_) | refine sl_eq ?_ | refine ex_flip () ?_ ?_ | (apply ex_flip6 <;> try dsimp only) | (apply ex_flip5 <;> try dsimp only) | (apply ex_flip4 <;> try dsimp only) | (apply ex_flip3 <;> try dsimp only) | (apply ex_flip2 <;> try dsimp only) | apply ex_flip | (refine Prod.forall.2 ?_; intro _; try dsimp only) | (intro _; try dsimp only))
  all_goals first
    | rfl
    | exact pk_init
    | exact hl
    | exact chZ hz hu
    | exact chZ hz hu (by assumption)
    | exact chZ (by assumption) (pkZ_bare hz hx (by assumption)).1 (by assumption)
    | exact chZ (by assumption) (pkZ_bare hz hx (by assumption)).1
    | exact pkZ_same hz hx (by assumption) (by assumption) (by assumption)
    | exact pkZ_wno hz hx (by assumption) (by assumption) (by assumption) (by assumption) (by assumption)
    | exact pkZ_wyes hz hx (by assumption) (by assumption) (by assumption) (by assumption) (by assumption)
    | exact pkZ_pre hz hx (by assumption) (by assumption)
    | (have hq := pkZ_pre hz hx (by assumption) (by assumption); have hb := (show bare x.1 _ = _ by assumption); rw [hb] at hq; exact hq)
    | exact pkZ_done hz (by assumption) (by assumption) rfl
    | exact pkZ_fin hz (by assumption) (by assumption) rfl
    | exact pkZ_kid hz hx (by assumption)
    | omega
    | (have hq := pkZ_bare hz hx (by assumption); omega)
    | (have hq := pkZ_len hz hx (by assumption); (try simp only [i64max, room, List.length_append, List.length_cons, List.length_nil]); omega)
    | (have hq := pkZ_len hz hx (by assumption); have hq2 := pkZ_bd hz hx (by assumption) (by assumption); (try simp only [i64max, room, List.length_append, List.length_cons, List.length_nil]); omega)
    | skip
  all_goals try rfl)

--proofs
theorem lP_all : ∀ n : Nat, Contract G Go.Proofs.Tryz.prog 50 (s_lP n)
  | 0 => lPZ_ok
  | n + 1 => lPS_ok n (lP_all n)
--end
def bigN : Nat := 1073741825
def sparedL (ns : List Nd) : List Nd := if treeOk ns then putN ns (rSp ns) bigN (ns.length - 1) [] else ns
theorem putP_top {R : List Nd → Rw} {ns : List Nd} (h : treeOk ns = true) (ho : okNds ns) : putP R bigN (ns, (ns.length : Int) - 1, []) := by
  obtain ⟨h1, h2, h3, h4⟩ := tree1_of h
  refine ⟨ho, h4, ?_, ?_⟩
  · show (ns.length : Int) - 1 < bigN
    unfold bigN; omega
  · have := @vis_len ns bigN h
    show 0 + _ ≤ _
    simp only at *
    omega
theorem tree_len {ns : List Nd} (h : treeOk ns = true) : 1 ≤ ns.length ∧ ns.length ≤ 300 := ⟨(tree1_of h).2.1, (tree1_of h).2.2.1⟩
def s_sSpared  : Sig := { X := List Nd, args := fun x => [nds x], pre := fun x => okNds x ∧ kidsB x, Y := Unit, post := fun x y => True, res := fun x y => onds (sparedL x), outs := fun x y => [.top], keep := false }
theorem sSpared_vc (x : List Nd) : vcFun Go.Proofs.Tryz.prog (Γof [(48, 0, s_sTreeOk), (49, 0, s_l05Copy), (50, 0, (s_lP bigN))]) (Eof [(24, ⟨Nd,ndA true⟩)]) false (Lof ([])) Go.Proofs.Tryz.f12.ntmps Go.Proofs.Tryz.f12.results.toList (Go.Proofs.Tryz.f12.body.getD .skip) s_sSpared x = ((∀ (y : Unit), True → (∀ (x : Nd), True ∧ True ∧ (∀ (x : Int), True ∧ True) ∧ True ∧ True) ∧ True ∧ True) ∧ ∃ (x_1 : List Nd), (okNds x_1 ∧ List.length x_1 ≤ (1073741824 : Nat)) ∧ AV.sl false (0 : Nat) (4 : Nat) Nd (ndA false) x = AV.sl false (0 : Nat) (4 : Nat) Nd (ndA false) x_1 ∧ ∀ (y : Unit), True → bcase (!treeOk x_1) (∃ (x_2 : List Nd), kidsB x_2 ∧ AV.sl false (0 : Nat) (4 : Nat) Nd (ndA false) x = AV.sl false (0 : Nat) (4 : Nat) Nd (ndA false) x_2 ∧ ∀ (y : Unit), True → ∃ (y : Unit), True ∧ AV.sl true (0 : Nat) (4 : Nat) Nd (ndA true) x_2 = AV.sl true (0 : Nat) (4 : Nat) Nd (ndA true) (sparedL x) ∧ True) (inR IntKind.i64 ((↑(List.length x) : Int) - (1 : Int)) ∧ ∃ (x_2 : List Nd × Int × List Nd), putP rSp bigN x_2 ∧ AV.sl true (0 : Nat) (4 : Nat) Nd (ndA true) [] = AV.sl true (0 : Nat) (4 : Nat) Nd (ndA true) x_2.snd.snd ∧ AV.sl false (0 : Nat) (4 : Nat) Nd (ndA false) x = AV.sl false (0 : Nat) (4 : Nat) Nd (ndA false) x_2.fst ∧ (↑(List.length x) : Int) - (1 : Int) = x_2.snd.fst ∧ ∀ (y : Unit), True → ∃ (y : Unit), True ∧ AV.sl true (0 : Nat) (4 : Nat) Nd (ndA true) (putN x_2.fst (rSp x_2.fst) bigN x_2.snd.fst x_2.snd.snd) = AV.sl true (0 : Nat) (4 : Nat) Nd (ndA true) (sparedL x) ∧ True)) := by kernel_rfl
theorem sSpared_ok  : Contract G Tryz.prog 12 s_sSpared :=
  vcFun_ok (Γ := Γof [(48, 0, s_sTreeOk), (49, 0, s_l05Copy), (50, 0, (s_lP bigN))]) (E := Eof [(24, ⟨Nd,ndA true⟩)]) (ov := false) (L := fun x => Lof ([])) Tryz.func12 rfl (by decide) (Γof_ok (l := [(48, 0, s_sTreeOk), (49, 0, s_l05Copy), (50, 0, (s_lP bigN))]) ⟨sTreeOk_ok, l05Copy_ok, (lP_all bigN), trivial⟩) fun (x : List Nd) (hx : okNds x ∧ kidsB x) => (sSpared_vc  x).mpr (by
  obtain ⟨h1, h2⟩ := hx; have hl := h1.1; have h3 := h2.1
  (repeat' first | with_reducible rfl | exact True.intro | refine inR_i64 ?_ ?_ | with_reducible refine And.intro ?_ ?_ | with_reducible refine bcase_dec (fun _ => ?_) (fun _ => ?_) | with_reducible refine bcase_bne (fun _ => ?_) (fun _ => ?_) | with_reducible refine bcase_beq (fun _ => ?_) (fun _ => ?_) | with_reducible refine bcase_not (fun _ => ?_) (fun _ => ?_) | refine bcase_intro (fun _ => ?_) (fun _ => ?_) | refine sl_eq ?_ | refine ex_flip () ?_ ?_ | (apply ex_flip6 <;> try dsimp only) | (apply ex_flip5 <;> try dsimp only) | (apply ex_flip4 <;> try dsimp only) | (apply ex_flip3 <;> try dsimp only) | (apply ex_flip2 <;> try dsimp only) | apply ex_flip | (refine Prod.forall.2 ?_; intro _; try dsimp only) | (intro _; try dsimp only))
  all_goals first
    | rfl
    | exact h1
    | exact h2
    | exact h3
    | exact putP_top (by assumption) h1
    | (rw [sparedL, if_pos (by assumption)]; done)
    | (rw [sparedL, if_neg (by simp [*])]; done)
    | (have ht := tree_len (by assumption); (try simp only [i64max]); omega)
    | ((try simp only [i64max]); omega)
    | skip)

def s_iSpared  : Sig := { X := List Nd, args := fun x => [nds x], pre := fun x => okNds x ∧ kidsB x, Y := Unit, post := fun x y => True, res := fun x y => onds (sparedL x), outs := fun x y => [.top], keep := false }
theorem iSpared_vc (x : List Nd) : vcFun Go.Proofs.Tryz.prog (Γof [(52, 0, s_iTreeOk), (53, 0, s_copyNodes), (57, 0, (s_mN bigN))]) (Eof [(24, ⟨Nd,ndA true⟩)]) false (Lof ([])) Go.Proofs.Tryz.f14.ntmps Go.Proofs.Tryz.f14.results.toList (Go.Proofs.Tryz.f14.body.getD .skip) s_iSpared x = ((∀ (y : Unit), True → (∀ (x : Nd), True ∧ True ∧ (∀ (x : Int), True ∧ True) ∧ True ∧ True) ∧ True ∧ True) ∧ ∃ (x_1 : List Nd), (okNds x_1 ∧ List.length x_1 ≤ (1073741824 : Nat)) ∧ AV.sl false (0 : Nat) (4 : Nat) Nd (ndA false) x = AV.sl false (0 : Nat) (4 : Nat) Nd (ndA false) x_1 ∧ ∀ (y : Unit), True → bcase (!treeOk x_1) (∃ (x_2 : List Nd), kidsB x_2 ∧ AV.sl false (0 : Nat) (4 : Nat) Nd (ndA false) x = AV.sl false (0 : Nat) (4 : Nat) Nd (ndA false) x_2 ∧ ∀ (y : Unit), True → ∃ (y : Unit), True ∧ AV.sl true (0 : Nat) (4 : Nat) Nd (ndA true) x_2 = AV.sl true (0 : Nat) (4 : Nat) Nd (ndA true) (sparedL x) ∧ True) (inR IntKind.i64 ((↑(List.length x) : Int) - (1 : Int)) ∧ ∃ (x_2 : List Nd × Int × List Nd), putP rSp bigN x_2 ∧ AV.sl false (0 : Nat) (4 : Nat) Nd (ndA false) x = AV.sl false (0 : Nat) (4 : Nat) Nd (ndA false) x_2.fst ∧ x_2.snd.snd = [] ∧ AV.pf [AV.sl false (0 : Nat) (4 : Nat) Nd (fun (x : Nd) => fzL._f [AV.int IntKind.i64 x.kind, AV.str x.text, AV.sl false (0 : Nat) (1 : Nat) Int intA x.kids, AV.bool x.blank] ⟨AV.rec (fun (k : IntKind) (n : Int) => ⟨fz._f (AV.int k n) PUnit.unit, PUnit.unit⟩) (fun (b : Bool) => ⟨fz._f (AV.bool b) PUnit.unit, PUnit.unit⟩) (fun (l : List UInt8) => ⟨fz._f (AV.str l) PUnit.unit, PUnit.unit⟩) (fun (v : Value) => ⟨fz._f (AV.val v) PUnit.unit, PUnit.unit⟩) ⟨fz._f AV.any PUnit.unit, PUnit.unit⟩ ⟨fz._f AV.top PUnit.unit, PUnit.unit⟩ ⟨fz._f AV.nil PUnit.unit, PUnit.unit⟩ (fun (id : Nat) => ⟨fz._f (AV.hole id) PUnit.unit, PUnit.unit⟩) (fun (id : Nat) => ⟨fz._f (AV.al id) PUnit.unit, PUnit.unit⟩) (fun (id k sz off : Nat) => ⟨fz._f (AV.po id k sz off) PUnit.unit, PUnit.unit⟩) (fun (fs : List AV) (fs_ih : List AV ×' AV.below_1 fs) => ⟨fz._f (AV.agg fs) fs_ih, fs_ih⟩) (fun (vs : List AV) (vs_ih : List AV ×' AV.below_1 vs) => ⟨fz._f (AV.tup vs) vs_ih, vs_ih⟩) (fun (id : Nat) (c : List AV) (c_ih : List AV ×' AV.below_1 c) => ⟨fz._f (AV.box id c) c_ih, c_ih⟩) (fun (c : List AV) (c_ih : List AV ×' AV.below_1 c) => ⟨fz._f (AV.pf c) c_ih, c_ih⟩) (fun (fn : Fn) (caps : List AV) (caps_ih : List AV ×' AV.below_1 caps) => ⟨fz._f (AV.clo fn caps) caps_ih, caps_ih⟩) (fun (own : Bool) (id sz : Nat) (α : Type) (f : α → List AV) (xs : List α) (f_ih : (a : α) → List AV ×' AV.below_1 (f a)) => ⟨fz._f (AV.sl own id sz α f xs) f_ih, f_ih⟩) ⟨fzL._f [] PUnit.unit, PUnit.unit⟩ (fun (head : AV) (tail : List AV) (head_ih : AV ×' AV.below head) (tail_ih : List AV ×' AV.below_1 tail) => ⟨fzL._f (head :: tail) ⟨head_ih, tail_ih⟩, head_ih, tail_ih⟩) (AV.int IntKind.i64 x.kind), AV.rec_1 (fun (k : IntKind) (n : Int) => ⟨fz._f (AV.int k n) PUnit.unit, PUnit.unit⟩) (fun (b : Bool) => ⟨fz._f (AV.bool b) PUnit.unit, PUnit.unit⟩) (fun (l : List UInt8) => ⟨fz._f (AV.str l) PUnit.unit, PUnit.unit⟩) (fun (v : Value) => ⟨fz._f (AV.val v) PUnit.unit, PUnit.unit⟩) ⟨fz._f AV.any PUnit.unit, PUnit.unit⟩ ⟨fz._f AV.top PUnit.unit, PUnit.unit⟩ ⟨fz._f AV.nil PUnit.unit, PUnit.unit⟩ (fun (id : Nat) => ⟨fz._f (AV.hole id) PUnit.unit, PUnit.unit⟩) (fun (id : Nat) => ⟨fz._f (AV.al id) PUnit.unit, PUnit.unit⟩) (fun (id k sz off : Nat) => ⟨fz._f (AV.po id k sz off) PUnit.unit, PUnit.unit⟩) (fun (fs : List AV) (fs_ih : List AV ×' AV.below_1 fs) => ⟨fz._f (AV.agg fs) fs_ih, fs_ih⟩) (fun (vs : List AV) (vs_ih : List AV ×' AV.below_1 vs) => ⟨fz._f (AV.tup vs) vs_ih, vs_ih⟩) (fun (id : Nat) (c : List AV) (c_ih : List AV ×' AV.below_1 c) => ⟨fz._f (AV.box id c) c_ih, c_ih⟩) (fun (c : List AV) (c_ih : List AV ×' AV.below_1 c) => ⟨fz._f (AV.pf c) c_ih, c_ih⟩) (fun (fn : Fn) (caps : List AV) (caps_ih : List AV ×' AV.below_1 caps) => ⟨fz._f (AV.clo fn caps) caps_ih, caps_ih⟩) (fun (own : Bool) (id sz : Nat) (α : Type) (f : α → List AV) (xs : List α) (f_ih : (a : α) → List AV ×' AV.below_1 (f a)) => ⟨fz._f (AV.sl own id sz α f xs) f_ih, f_ih⟩) ⟨fzL._f [] PUnit.unit, PUnit.unit⟩ (fun (head : AV) (tail : List AV) (head_ih : AV ×' AV.below head) (tail_ih : List AV ×' AV.below_1 tail) => ⟨fzL._f (head :: tail) ⟨head_ih, tail_ih⟩, head_ih, tail_ih⟩) [AV.str x.text, AV.sl false (0 : Nat) (1 : Nat) Int intA x.kids, AV.bool x.blank]⟩) x] = AV.pf [AV.sl false (0 : Nat) (4 : Nat) Nd (ndA false) x_2.fst] ∧ (↑(List.length x) : Int) - (1 : Int) = x_2.snd.fst ∧ ∀ (y : Unit), True → ∃ (y : Unit), True ∧ AV.sl true (0 : Nat) (4 : Nat) Nd (ndA true) (putN x_2.fst (rSp x_2.fst) bigN x_2.snd.fst x_2.snd.snd) = AV.sl true (0 : Nat) (4 : Nat) Nd (ndA true) (sparedL x) ∧ True)) := by kernel_rfl
theorem iSpared_ok  : Contract G Tryz.prog 14 s_iSpared :=
  vcFun_ok (Γ := Γof [(52, 0, s_iTreeOk), (53, 0, s_copyNodes), (57, 0, (s_mN bigN))]) (E := Eof [(24, ⟨Nd,ndA true⟩)]) (ov := false) (L := fun x => Lof ([])) Tryz.func14 rfl (by decide) (Γof_ok (l := [(52, 0, s_iTreeOk), (53, 0, s_copyNodes), (57, 0, (s_mN bigN))]) ⟨iTreeOk_ok, copyNodes_ok, (mN_all bigN), trivial⟩) fun (x : List Nd) (hx : okNds x ∧ kidsB x) => (iSpared_vc  x).mpr (by
  obtain ⟨h1, h2⟩ := hx; have hl := h1.1; have h3 := h2.1
  (repeat' first | with_reducible rfl | exact True.intro | refine inR_i64 ?_ ?_ | with_reducible refine And.intro ?_ ?_ | with_reducible refine bcase_dec (fun _ => ?_) (fun _ => ?_) | with_reducible refine bcase_bne (fun _ => ?_) (fun _ => ?_) | with_reducible refine bcase_beq (fun _ => ?_) (fun _ => ?_) | with_reducible refine bcase_not (fun _ => ?_) (fun _ => ?_) | refine bcase_intro (fun _ => ?_) (fun _ => ?_) | refine sl_eq ?_ | refine ex_flip () ?_ ?_ | (apply ex_flip6 <;> try dsimp only) | (apply ex_flip5 <;> try dsimp only) | (apply ex_flip4 <;> try dsimp only) | (apply ex_flip3 <;> try dsimp only) | (apply ex_flip2 <;> try dsimp only) | apply ex_flip | (refine Prod.forall.2 ?_; intro _; try dsimp only) | (intro _; try dsimp only))
  all_goals first
    | rfl
    | exact h1
    | exact h2
    | exact h3
    | exact putP_top (by assumption) h1
    | (rw [sparedL, if_pos (by assumption)]; done)
    | (rw [sparedL, if_neg (by simp [*])]; done)
    | (have ht := tree_len (by assumption); (try simp only [i64max]); omega)
    | ((try simp only [i64max]); omega)
    | skip)

end Go.My
end
section
/- What is put anew is no greater than what was. -/
set_option linter.unusedVariables false
set_option linter.unusedSimpArgs false
namespace Go.My
open Go.Eng

theorem putN_all {ns : List Nd} {R : Rw} (hR : RwOk ns R) {p : Nd → Prop} (hpar : ∀ o, p (parNd o)) (hst : ∀ k x, R.stop k = some x → p x)
    (hnd : ∀ k ks, okUp ns k → ks.length = (ndAt ns k).kids.length → p ⟨(ndAt ns k).kind, (ndAt ns k).text, ks, (ndAt ns k).blank⟩) :
    ∀ {n : Nat} {k : Int} {out : List Nd}, okUp ns k → k < n → (∀ e ∈ out, p e) → ∀ e ∈ putN ns R n k out, p e
  | 0, k, out, h, hk, ho => by have := isNd_iff.1 h.1; omega
  | n + 1, k, out, h, hk, ho => by
    rw [putN]
    cases hs : R.stop k with
    | some x =>
      intro e he
      rcases List.mem_append.1 he with he | he
      · exact ho e he
      · simp at he; subst he; exact hst k _ hs
    | none =>
      simp only
      have key : ∀ (l : List Int) (i : Nat) (o : List Nd) (ks : List Int), (ndAt ns k).kids.drop i = l → (∀ e ∈ o, p e) → (∀ e ∈ (putK R (putN ns R n) k l i o ks).1, p e) ∧ (putK R (putN ns R n) k l i o ks).2.length = ks.length + l.length := by
        intro l
        induction l with
        | nil => intro i o ks _ ho; exact ⟨ho, by simp [putK]⟩
        | cons c l ih =>
          intro i o ks hd ho
          have hc : (ndAt ns k).kids[i]? = some c := by
            have := congrArg (fun l : List Int => l[0]?) hd
            simpa using this
          have hm := okUp_kid h (memE hc)
          obtain ⟨g1, g2, g3⟩ := hR n k i c h hc (by omega)
          have hp := putN_all hR hpar hst hnd (n := n) (k := R.tgt k i c) (out := o) g1 (by omega) ho
          have hd2 : (ndAt ns k).kids.drop (i + 1) = l := by
            rw [← List.drop_drop, hd]; rfl
          have hq : ∀ e ∈ put1 R (putN ns R n) k i c o, p e := by
            unfold put1
            split
            · intro e he
              rcases List.mem_append.1 he with he | he
              · exact hp e he
              · simp at he; subst he; exact hpar _
            · exact hp
          have := ih (i + 1) _ (ks ++ [((put1 R (putN ns R n) k i c o).length : Int) - 1]) hd2 hq
          rw [putK]
          have e : ((i : Int) + 1) = ((i + 1 : Nat) : Int) := by omega
          rw [e]
          refine ⟨this.1, ?_⟩
          rw [this.2]; simp; omega
      have := key (ndAt ns k).kids 0 out [] (by simp) ho
      intro e he
      rcases List.mem_append.1 he with he | he
      · exact this.1 e he
      · simp only [List.mem_singleton] at he
        rw [he]
        exact hnd k _ h (by have := this.2; simpa using this)
theorem gTot_nn {α : Type} (sz : α → Nat) : ∀ l : List α, 0 ≤ gTot sz l
  | [] => Int.le_refl 0
  | x :: l => by have := gTot_nn sz l; simp only [gTot]; omega
theorem mk_tot (l : List Nd) (k : Int) : gTot szN (gMk mkN szN k l) = gTot szN l := (gMk_idem szN_mk mkN_mk).2
theorem mk_idem (l : List Nd) (k : Int) : gMk mkN szN k l = gMk mkN szN k (gMk mkN szN k l) := (gMk_idem szN_mk mkN_mk).1.symm
def resB (l : List Nd) : Prop := l.length ≤ 1048576 ∧ ∀ e ∈ l, e.text.length ≤ 1048576 ∧ e.kids.length ≤ 1048576
theorem resB_of {l : List Nd} (h : ¬ szNds l 1048576 < 0) : resB l := by
  have := szNds_bd (l := l) (n := 1048576) (by omega) h
  exact ⟨by have := this.1; omega, fun e he => by have := this.2 e he; omega⟩
theorem resB_small {l : List Nd} (h : resB l) : smallNds l := ⟨by have := h.1; omega, fun e he => by have := h.2 e he; exact ⟨by omega, by omega⟩⟩
theorem resB_g {l : List Nd} (h : resB l) : qgB szN l := ⟨h.1, fun e he => by have := h.2 e he; simp [szN]; omega⟩
def kidsB' (l : List Nd) : Prop := l.length ≤ 2 ^ 30 ∧ ∀ e ∈ l, e.kids.length ≤ 2 ^ 30
theorem resB_kids {l : List Nd} (h : resB l) : kidsB' l := ⟨by have := h.1; omega, fun e he => by have := h.2 e he; omega⟩
theorem resB_ok {l : List Nd} (h : resB l) : okNds l := ⟨by have := h.1; omega, fun e he => by have := h.2 e he; exact ⟨by omega, by omega⟩⟩
theorem putN_resB {ns : List Nd} {R : Rw} (hR : RwOk ns R) (hst : ∀ k x, R.stop k = some x → x.text.length ≤ 1048576 ∧ x.kids.length ≤ 1048576) (ht : treeOk ns = true) (hb : resB ns) {n : Nat} (hn : 301 ≤ n) : resB (putN ns R n ((ns.length : Int) - 1) []) := by
  obtain ⟨h1, h2, h3, h4⟩ := tree1_of ht
  have hlen := putN_bd hR (n := n) (out := []) h4 (by omega)
  have hv := @vis_len ns n ht
  refine ⟨by simp at hlen; omega, ?_⟩
  refine putN_all hR (fun o => by simp [parNd]) hst (fun k ks hu hk => ?_) h4 (by omega) (fun e he => by cases he)
  have hr := isNd_iff.1 hu.1
  have e : ns[k.toNat]? = some ns[k.toNat] := by simp
  have hm := hb.2 _ (memE e)
  rw [ndAt_of e] at hk ⊢
  exact ⟨hm.1, by rw [hk]; exact hm.2⟩
end Go.My
end
section
/- Trees with numbers in the place of what is foldable, plainly. -/
set_option linter.unusedVariables false
set_option linter.unusedSimpArgs false
namespace Go.My
open Go.Eng

def foldC (ns : List Nd) (k : Int) : Bool := decide (kindAt ns k = 7) && ((cV ns k).isSome && inn (oI (cV ns k)) 0 999999999)
def fdNd (ns : List Nd) (k : Int) : Nd := ⟨2, itoaL (oI (cV ns k)), [], false⟩
def rFd (ns : List Nd) : Rw := ⟨fun k => if foldC ns k then some (fdNd ns k) else none, fun _ _ c => c, fun _ _ _ => false⟩
theorem rFd_ok {ns : List Nd} : RwOk ns (rFd ns) := by
  intro n k i c hu hc hn
  exact ⟨(okUp_kid hu (memE hc)).1, Int.le_refl _, by simp [rFd]⟩
theorem rFd_stop {ns : List Nd} {k : Int} (h : foldC ns k = true) : (rFd ns).stop k = some (fdNd ns k) := by simp [rFd, h]
theorem rFd_go {ns : List Nd} {k : Int} (h : foldC ns k = false) : (rFd ns).stop k = none := by simp [rFd, h]
theorem foldC_bd {ns : List Nd} {k : Int} (h : foldC ns k = true) : 0 ≤ oI (cV ns k) ∧ oI (cV ns k) ≤ 999999999 := by
  simp only [foldC, Bool.and_eq_true] at h
  exact inn_iff.1 h.2.2
/- how many -/
def sumK (f : Int → Int) (l : List Int) : Int := (l.map f).sum
theorem sumK_cons {f : Int → Int} {c : Int} {l : List Int} : sumK f (c :: l) = f c + sumK f l := by simp [sumK]
theorem sumK_append {f : Int → Int} : ∀ {l m : List Int}, sumK f (l ++ m) = sumK f l + sumK f m
  | [], m => by simp [sumK]
  | c :: l, m => by rw [List.cons_append, sumK_cons, sumK_cons, sumK_append]; omega
theorem visK_append {ns : List Nd} {n : Nat} : ∀ {l m : List Int}, visK ns n (l ++ m) = visK ns n l + visK ns n m
  | [], m => by simp [visK]
  | c :: l, m => by rw [List.cons_append, visK_cons, visK_cons, visK_append]; omega
def fCnt (ns : List Nd) : Nat → Int → Int
  | 0, _ => 0
  | n + 1, k => if foldC ns k then 1 else sumK (fCnt ns n) (ndAt ns k).kids
theorem sumK_bd {ns : List Nd} {n : Nat} {f : Int → Int} (hf : ∀ k, 0 ≤ f k ∧ f k ≤ (vis ns n k).length) : ∀ l : List Int, 0 ≤ sumK f l ∧ sumK f l ≤ visK ns n l
  | [] => by simp [sumK, visK]
  | c :: l => by
    have h1 := hf c
    have h2 := sumK_bd hf l
    rw [sumK_cons, visK_cons]; omega
theorem fCnt_bd {ns : List Nd} : ∀ (n : Nat) (k : Int), 0 ≤ fCnt ns n k ∧ fCnt ns n k ≤ (vis ns n k).length
  | 0, k => by simp [fCnt, vis]
  | n + 1, k => by
    have h := sumK_bd (ns := ns) (f := fCnt ns n) (fCnt_bd n) (ndAt ns k).kids
    rw [vis_succ, fCnt]
    have e : visK ns n (kidsOf ns k) = visK ns n (ndAt ns k).kids := rfl
    rw [e]
    split <;> omega
/- within a node -/
def fkI (ns : List Nd) (n : Nat) (k : Int) (out0 : List Nd) (f0 : Int) (i : Int) (out : List Nd) (ks : List Int) (f : Int) : Prop :=
  (foldC ns k = true ∧ i = 0 ∧ out = out0 ∧ ks = [] ∧ f = f0 + 1) ∨
  (foldC ns k = false ∧ pk ns (rFd ns) n k out0 i out ks ∧ f + sumK (fCnt ns n) ((ndAt ns k).kids.drop i.toNat) = f0 + sumK (fCnt ns n) (ndAt ns k).kids ∧ f0 ≤ f)
def fNd (ns : List Nd) (k : Int) : Nd := if foldC ns k then fdNd ns k else ndAt ns k
theorem fNd_yes {ns : List Nd} {k : Int} (h : foldC ns k = true) : fNd ns k = fdNd ns k := by rw [fNd, if_pos h]
theorem fNd_no {ns : List Nd} {k : Int} (h : foldC ns k = false) : fNd ns k = ndAt ns k := by rw [fNd, if_neg (by simp [h])]
def fdP (n : Nat) (x : List Nd × Int × List Nd × Int) : Prop := putP rFd n (x.1, x.2.1, x.2.2.1) ∧ (0 ≤ x.2.2.2 ∧ x.2.2.2 + (vis x.1 n x.2.1).length ≤ 1048576) ∧ x.1.length ≤ 2 ^ 30
theorem fkI_init {ns : List Nd} {n : Nat} {k : Int} {out0 : List Nd} {f0 : Int} : fkI ns n k out0 f0 0 out0 [] (if foldC ns k then f0 + 1 else f0) := by
  cases h : foldC ns k
  · exact .inr ⟨h, pk_init, by simp, by simp⟩
  · exact .inl ⟨h, rfl, rfl, rfl, by simp⟩
theorem fkI_yes {ns : List Nd} {n : Nat} {k : Int} {out0 : List Nd} {f0 : Int} (h : foldC ns k = true) : fkI ns n k out0 f0 0 out0 [] (f0 + 1) := .inl ⟨h, rfl, rfl, rfl, rfl⟩
theorem fkI_no {ns : List Nd} {n : Nat} {k : Int} {out0 : List Nd} {f0 : Int} (h : foldC ns k = false) : fkI ns n k out0 f0 0 out0 [] f0 := .inr ⟨h, pk_init, by simp, Int.le_refl _⟩
theorem fkI_not {ns : List Nd} {n : Nat} {k : Int} {out0 : List Nd} {f0 i c : Int} {out : List Nd} {ks : List Int} {f : Int} (h : fkI ns n k out0 f0 i out ks f) (hc : (fNd ns k).kids[i.toNat]? = some c) :
    foldC ns k = false ∧ pk ns (rFd ns) n k out0 i out ks ∧ f + sumK (fCnt ns n) ((ndAt ns k).kids.drop i.toNat) = f0 + sumK (fCnt ns n) (ndAt ns k).kids ∧ f0 ≤ f ∧ (ndAt ns k).kids[i.toNat]? = some c := by
  rcases h with ⟨h1, h2⟩ | ⟨h1, h2, h3, h4⟩
  · rw [fNd_yes h1] at hc; simp [fdNd] at hc
  · rw [fNd_no h1] at hc; exact ⟨h1, h2, h3, h4, hc⟩
theorem fkI_pre {ns : List Nd} {n : Nat} {k : Int} {out0 : List Nd} {f0 i c : Int} {out : List Nd} {ks : List Int} {f : Int} (hx : fdP (n + 1) (ns, k, out0, f0)) (h : fkI ns n k out0 f0 i out ks f) (hc : (fNd ns k).kids[i.toNat]? = some c) :
    fdP n (ns, c, out, f) := by
  obtain ⟨h1, h2, h3, h4, h5⟩ := fkI_not h hc
  obtain ⟨⟨p1, p2, p3, p4⟩, ⟨q1, q2⟩, q3⟩ := hx
  obtain ⟨g1, g2, g3⟩ := pk_pre rFd_ok h2 p2 (by simpa using p3) h5 p4
  refine ⟨⟨p1, g1, g2, g3⟩, ⟨by simp only at q1 ⊢; omega, ?_⟩, q3⟩
  have e : visK ns n (kidsOf ns k) = visK ns n (ndAt ns k).kids := rfl
  simp only at q1 q2 ⊢
  rw [vis_succ, e] at q2
  have hd := dropE h5
  have h6 := sumK_bd (fCnt_bd (ns := ns) n) ((ndAt ns k).kids.take i.toNat)
  have h7 : sumK (fCnt ns n) (ndAt ns k).kids = sumK (fCnt ns n) ((ndAt ns k).kids.take i.toNat) + sumK (fCnt ns n) ((ndAt ns k).kids.drop i.toNat) := by
    rw [← sumK_append, List.take_append_drop]
  have h8 : visK ns n (ndAt ns k).kids = visK ns n ((ndAt ns k).kids.take i.toNat) + visK ns n ((ndAt ns k).kids.drop i.toNat) := by
    rw [← visK_append, List.take_append_drop]
  have h9 : visK ns n ((ndAt ns k).kids.drop i.toNat) = (vis ns n c).length + visK ns n ((ndAt ns k).kids.drop (i.toNat + 1)) := visK_drop h5
  omega
theorem fkI_next {ns : List Nd} {n : Nat} {k : Int} {out0 : List Nd} {f0 i c : Int} {out : List Nd} {ks : List Int} {f : Int} (hx : fdP (n + 1) (ns, k, out0, f0)) (h : fkI ns n k out0 f0 i out ks f) (hc : (fNd ns k).kids[i.toNat]? = some c) :
    fkI ns n k out0 f0 (i + 1) (putN ns (rFd ns) n c out) (ks ++ [((putN ns (rFd ns) n c out).length : Int) - 1]) (f + fCnt ns n c) := by
  obtain ⟨h1, h2, h3, h4, h5⟩ := fkI_not h hc
  obtain ⟨⟨p1, p2, p3, p4⟩, ⟨q1, q2⟩, q3⟩ := hx
  have h6 := pk_next rFd_ok h2 p2 (by simpa using p3) h5
  have e : put1 (rFd ns) (putN ns (rFd ns) n) k i c out = putN ns (rFd ns) n c out := rfl
  rw [e] at h6
  refine .inr ⟨h1, h6, ?_, ?_⟩
  · have h0 := h2.1.1
    rw [toNat1 h0, ← h3, dropE h5, sumK_cons]; omega
  · have := (fCnt_bd (ns := ns) n c).1; omega
theorem fkI_len {ns : List Nd} {n : Nat} {k : Int} {out0 : List Nd} {f0 i : Int} {out : List Nd} {ks : List Int} {f : Int} (hx : fdP (n + 1) (ns, k, out0, f0)) (h : fkI ns n k out0 f0 i out ks f) :
    (0 ≤ i ∧ i ≤ (fNd ns k).kids.length) ∧ (fNd ns k).kids.length ≤ 12 ∧ ks.length = i ∧ out.length ≤ 1048576 ∧ 0 ≤ f ∧ f ≤ 1048577 := by
  obtain ⟨⟨p1, p2, p3, p4⟩, ⟨q1, q2⟩, q3⟩ := hx
  simp only at p4 q1 q2
  rcases h with ⟨h1, rfl, rfl, rfl, rfl⟩ | ⟨h1, h2, h3, h4⟩
  · rw [fNd_yes h1]
    simp [fdNd]; omega
  · rw [fNd_no h1]
    obtain ⟨g1, g2, g3⟩ := pk_bd h2 p4
    have h4' := (nodeOk_parts (okUp_at p2)).2.1
    have e : visK ns n (kidsOf ns k) = visK ns n (ndAt ns k).kids := rfl
    rw [vis_succ, e] at q2
    have h6 := sumK_bd (fCnt_bd (ns := ns) n) ((ndAt ns k).kids)
    have h7 := sumK_bd (fCnt_bd (ns := ns) n) ((ndAt ns k).kids.drop i.toNat)
    exact ⟨g1, h4', g3, by omega, by omega, by omega⟩
theorem fkI_done {ns : List Nd} {n : Nat} {k : Int} {out0 : List Nd} {f0 i : Int} {out : List Nd} {ks : List Int} {f : Int} (h : fkI ns n k out0 f0 i out ks f) (hl : ¬ i < (fNd ns k).kids.length) :
    out ++ [⟨(fNd ns k).kind, (fNd ns k).text, ks, (fNd ns k).blank⟩] = putN ns (rFd ns) (n + 1) k out0 ∧ f = f0 + fCnt ns (n + 1) k := by
  rcases h with ⟨h1, rfl, rfl, rfl, rfl⟩ | ⟨h1, h2, h3, h4⟩
  · rw [fNd_yes h1, putN, rFd_stop h1, fCnt, if_pos h1]; exact ⟨rfl, rfl⟩
  · rw [fNd_no h1] at hl ⊢
    refine ⟨pk_done h2 hl (rFd_go h1), ?_⟩
    have := h2.1
    rw [List.drop_eq_nil_of_le (by omega)] at h3
    rw [fCnt, if_neg (by simp [h1]), ← h3]; simp [sumK]
theorem putF_bd {ns : List Nd} {n : Nat} {c : Int} {out : List Nd} {f : Int} (hx : fdP n (ns, c, out, f)) : 1 ≤ (putN ns (rFd ns) n c out).length ∧ (putN ns (rFd ns) n c out).length ≤ 1048576 ∧ 0 ≤ f + fCnt ns n c ∧ f + fCnt ns n c ≤ 1048576 := by
  obtain ⟨⟨p1, p2, p3, p4⟩, ⟨q1, q2⟩, q3⟩ := hx
  have h1 := putN_bd (@rFd_ok ns) (n := n) (out := out) p2 p3
  have h2 := fCnt_bd (ns := ns) n c
  simp only at *
  omega
def foldedL (ns : List Nd) : List Nd := if treeOk ns then putN ns (rFd ns) bigN (ns.length - 1) [] else ns
def foldsL (ns : List Nd) : Int := if treeOk ns then fCnt ns bigN (ns.length - 1) else 0
theorem fdP_top {ns : List Nd} (h : treeOk ns = true) (ho : okNds ns) : fdP bigN (ns, (ns.length : Int) - 1, [], 0) := by
  refine ⟨putP_top h ho, ⟨Int.le_refl _, ?_⟩, by have := tree_len h; show ns.length ≤ _; omega⟩
  have := @vis_len ns bigN h
  show (0 : Int) + _ ≤ _
  simp only at *
  omega
theorem foldsL_bd {ns : List Nd} : 0 ≤ foldsL ns ∧ foldsL ns ≤ 300 := by
  unfold foldsL
  split
  · rename_i h
    have h1 := fCnt_bd (ns := ns) bigN ((ns.length : Int) - 1)
    have := @vis_len ns bigN h
    omega
  · omega
theorem folded_resB {ns : List Nd} (hb : resB ns) : resB (foldedL ns) := by
  unfold foldedL
  split
  · refine putN_resB rFd_ok (fun k x h => ?_) (by assumption) hb (by unfold bigN; omega)
    simp only [rFd] at h
    split at h
    · rename_i hf
      cases h
      have := foldC_bd hf
      have := itoa_len this.1 this.2
      simp only [fdNd]
      exact ⟨by omega, by simp⟩
    · cases h
  · exact hb
end Go.My
end
section
/- The library's strconv.Itoa at this program: the kit's contract, laid. -/
namespace Go.Proofs
open Go.Shelf
def Tryz.laysM171_ren : Go.Shelf.Ren := ⟨fun | 171 => 165 | 243 => 194 | 246 => 221 | 283 => 237 | 284 => 238 | 285 => 239 | 286 => 240 | 129 => 262 | 317 => 261 | 318 => 263 | 319 => 264 | 320 => 265 | 337 => 272 | 338 => 273 | n => n, fun | 3 => 3 | 9 => 9 | 2 => 2 | 4 => 4 | 171 => 212 | 0 => 0 | 53 => 213 | 37 => 135 | 5 => 5 | 173 => 216 | 212 => 225 | 51 => 226 | 20 => 20 | 213 => 227 | 46 => 185 | 232 => 242 | 233 => 243 | n => n, fun | 17 => 0 | 18 => 2 | 19 => 3 | n => n⟩
theorem Tryz.laysM171 : Go.Proofs.LaysM.n171 Tryz.prog Tryz.laysM171_ren := {
  mixed := by kernel_rfl
  f129 := Tryz.func262.trans (congrArg some (by kernel_rfl))
  f171 := Tryz.func165.trans (congrArg some (by kernel_rfl))
  f243 := Tryz.func194.trans (congrArg some (by kernel_rfl))
  f246 := Tryz.func221.trans (congrArg some (by kernel_rfl))
  f283 := Tryz.func237.trans (congrArg some (by kernel_rfl))
  f284 := Tryz.func238.trans (congrArg some (by kernel_rfl))
  f285 := Tryz.func239.trans (congrArg some (by kernel_rfl))
  f286 := Tryz.func240.trans (congrArg some (by kernel_rfl))
  f317 := Tryz.func261.trans (congrArg some (by kernel_rfl))
  f318 := Tryz.func263.trans (congrArg some (by kernel_rfl))
  f319 := Tryz.func264.trans (congrArg some (by kernel_rfl))
  f320 := Tryz.func265.trans (congrArg some (by kernel_rfl))
  f337 := Tryz.func272.trans (congrArg some (by kernel_rfl))
  f338 := Tryz.func273.trans (congrArg some (by kernel_rfl))
  t0 := Tryz.underlying0
  a0 := Tryz.isAgg0
  z0 := Tryz.sizeOf0
  v0 := Tryz.zeroValue0
  t2 := Tryz.underlying2
  a2 := Tryz.isAgg2
  z2 := Tryz.sizeOf2
  v2 := Tryz.zeroValue2
  t3 := Tryz.underlying3
  a3 := Tryz.isAgg3
  z3 := Tryz.sizeOf3
  v3 := Tryz.zeroValue3
  t4 := Tryz.underlying4
  a4 := Tryz.isAgg4
  z4 := Tryz.sizeOf4
  v4 := Tryz.zeroValue4
  t5 := Tryz.underlying5
  a5 := Tryz.isAgg5
  z5 := Tryz.sizeOf5
  v5 := Tryz.zeroValue5
  t9 := Tryz.underlying9
  a9 := Tryz.isAgg9
  z9 := Tryz.sizeOf9
  v9 := Tryz.zeroValue9
  t20 := Tryz.underlying20
  a20 := Tryz.isAgg20
  z20 := Tryz.sizeOf20
  v20 := Tryz.zeroValue20
  t37 := Tryz.underlying135
  a37 := Tryz.isAgg135
  z37 := Tryz.sizeOf135
  v37 := Tryz.zeroValue135
  t46 := Tryz.underlying185
  a46 := Tryz.isAgg185
  z46 := Tryz.sizeOf185
  v46 := Tryz.zeroValue185
  t51 := Tryz.underlying226
  a51 := Tryz.isAgg226
  z51 := Tryz.sizeOf226
  v51 := Tryz.zeroValue226
  t53 := Tryz.underlying213
  a53 := Tryz.isAgg213
  z53 := Tryz.sizeOf213
  v53 := Tryz.zeroValue213
  t171 := Tryz.underlying212
  a171 := Tryz.isAgg212
  z171 := Tryz.sizeOf212
  v171 := Tryz.zeroValue212
  t173 := Tryz.underlying216
  a173 := Tryz.isAgg216
  z173 := Tryz.sizeOf216
  v173 := Tryz.zeroValue216
  t212 := Tryz.underlying225
  a212 := Tryz.isAgg225
  z212 := Tryz.sizeOf225
  v212 := Tryz.zeroValue225
  t213 := Tryz.underlying227
  a213 := Tryz.isAgg227
  z213 := Tryz.sizeOf227
  t232 := Tryz.underlying242
  a232 := Tryz.isAgg242
  z232 := Tryz.sizeOf242
  v232 := Tryz.zeroValue242
  t233 := Tryz.underlying243
  a233 := Tryz.isAgg243
  z233 := Tryz.sizeOf243
  v233 := Tryz.zeroValue243
  g17 := by kernel_rfl
  g18 := by kernel_rfl
  g19 := by kernel_rfl
  i0 := by kernel_rfl
  i2 := by kernel_rfl
  i3 := by kernel_rfl
  i4 := by kernel_rfl
  i5 := by kernel_rfl
  i9 := by kernel_rfl
  i20 := by kernel_rfl
  i37 := by kernel_rfl
  i46 := by kernel_rfl
  i51 := by kernel_rfl
  i53 := by kernel_rfl
  i171 := by kernel_rfl
  i173 := by kernel_rfl
  i212 := by kernel_rfl
  i232 := by kernel_rfl
  i233 := by kernel_rfl
  m17 := by kernel_rfl
  m18 := by kernel_rfl
  m19 := by kernel_rfl }
end Go.Proofs
end
