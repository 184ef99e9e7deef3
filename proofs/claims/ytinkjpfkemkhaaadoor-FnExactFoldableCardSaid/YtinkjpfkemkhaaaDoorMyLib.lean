/- A few functions of Go's library. -/
import Derived.Test.YtinkjpfkemkhaaaDoorMySg
import Derived.Test.YtinkjpfkemkhaaaDoorProg
import Derived.WalkKit
import Derived.Lib.Bytealg
import Derived.Laws.Externs
set_option linter.unusedVariables false
set_option linter.unusedSimpArgs false
namespace Go.My
open Go.Eng Go.Proofs Go.RowKit

def idxI (s : List UInt8) (c : UInt8) : Int := match idxOf (fun d => decide (d.toNat = c.toNat)) s with
  | none => -1
  | some i => i
theorem indexByte_eq : ∀ (s : List UInt8) (c : UInt8), Lib.indexByte s c = idxI s c
  | [], c => rfl
  | b :: s, c => by
    unfold Lib.indexByte idxI idxOf
    have e : (b == c) = decide (b.toNat = c.toNat) := by
      rw [Bool.eq_iff_iff]; simp [UInt8.toNat_inj]
    rw [e]
    by_cases h : b.toNat = c.toNat
    · simp [h]
    · have ih := indexByte_eq s c
      unfold idxI at ih
      simp only [h, decide_false, Bool.false_eq_true, if_false]
      rw [ih]
      cases hh : idxOf (fun d => decide (d.toNat = c.toNat)) s with
      | none => simp
      | some i => simp
set_option maxHeartbeats 1000000 in
set_option maxRecDepth 100000 in
theorem idxByte_calls (s : ByteArray) (c : Int) (w : World) :
    Calls Tryd.prog 107 #[.string s, .int .u8 c] w fun e w' => e = .returned (.int .i64 (Lib.indexByte s.data.toList c.toNat.toUInt8)) ∧ w' = w := by
  go_enter Tryd.func107, Tryd.ntmps107
  go_wp2
  rw [run_callFunc_extern Tryd.func113 (by kernel_rfl) (by kernel_rfl) (by kernel_rfl) (e := Extern.BytealgIndexByte.indexByte) (by kernel_rfl), Lib.run_indexByteString]
  simp only [Result.andThen]
  rw [Oper.upon_value]
  go_wp2
  go_ret
  exact ⟨rfl, rfl⟩
def s_idxB : Sig := { X := List UInt8 × UInt8, args := fun x => [.str x.1, .int .u8 x.2.toNat], pre := fun _ => True, Y := Unit, post := fun _ _ => True, res := fun x _ => .int .i64 (idxI x.1 x.2), outs := fun _ _ => [.top, .top], keep := false }
theorem idxB_ok : Contract Tryd.prog 107 s_idxB := by
  refine ⟨⟨⟨_, Tryd.func107, by kernel_rfl, by kernel_rfl⟩, fun x y _ _ => ⟨trivial, trivial, trivial, trivial⟩⟩, ?_⟩
  rintro ⟨l, c⟩ _ Z w vals A h hA
  simp only [s_idxB, rel0L, rel0] at h
  obtain ⟨v, cs, A1, A2, rfl, _, ⟨rfl, _⟩, v', cs', A3, A4, rfl, _, ⟨rfl, _⟩, rfl, _⟩ := h
  refine (idxByte_calls ⟨l.toArray⟩ c.toNat w).mono ?_
  rintro e w' ⟨rfl, rfl⟩
  refine ⟨(), _, Z, (fun _ => False), trivial, rfl, ?_, ⟨rfl, rfl, rfl, Nat.le_refl _, fun _ _ _ => ⟨rfl, Iff.rfl⟩, fun _ h => h.elim⟩⟩
  simp only [s_idxB, rel0L, rel0]
  refine ⟨_, _, _, _, rfl, join_emp_left _, ⟨?_, emp_false⟩, _, _, _, _, rfl, join_emp_left _, emp_false, _, _, _, _, rfl, join_emp_left _, emp_false, rfl, emp_false⟩
  rw [indexByte_eq]; simp
def s_idxQ : Sig := { X := List UInt8, args := fun x => [.str x, .int .u8 39], pre := fun _ => True, Y := Unit, post := fun _ _ => True, res := fun x _ => .int .i64 (idxI x 39), outs := fun _ _ => [.top, .top], keep := false }
theorem idxQ_ok : Contract Tryd.prog 107 s_idxQ := ⟨⟨idxB_ok.1.1, fun x y _ _ => ⟨trivial, trivial, trivial, trivial⟩⟩, fun x hx => idxB_ok.2 (x, 39) trivial⟩
def s_sIdxQ  : Sig := { X := List UInt8, args := fun x => [.str x, .int .u8 39], pre := fun x => True, Y := Unit, post := fun x y => True, res := fun x y => .int .i64 (idxI x 39), outs := fun x y => [.top, .top], keep := false }
theorem sIdxQ_vc (x : List UInt8) : vcFun Go.Proofs.Tryd.prog (Γof [(107, 0, s_idxQ)]) (Eof []) false (Lof ([])) Go.Proofs.Tryd.f103.ntmps Go.Proofs.Tryd.f103.results.toList (Go.Proofs.Tryd.f103.body.getD .skip) s_sIdxQ x = ((∀ (y : Unit), True → True ∧ True ∧ True ∧ True) ∧ ∃ (x_1 : List UInt8), True ∧ x = x_1 ∧ (39 : Int) = (39 : Int) ∧ ∀ (y : Unit), True → ∃ (y : Unit), True ∧ idxI x_1 (39 : UInt8) = idxI x (39 : UInt8) ∧ True) := by kernel_rfl
theorem sIdxQ_ok  : Contract Tryd.prog 103 s_sIdxQ :=
  vcFun_ok (Γ := Γof [(107, 0, s_idxQ)]) (E := Eof []) (ov := false) (L := fun x => Lof ([])) Tryd.func103 rfl (by decide) (Γof_ok (l := [(107, 0, s_idxQ)]) ⟨idxQ_ok, trivial⟩) fun (x : List UInt8) (hx : True) => (sIdxQ_vc  x).mpr (by
  (repeat' first | with_reducible rfl | exact True.intro | refine inR_i64 ?_ ?_ | with_reducible refine And.intro ?_ ?_ | with_reducible refine bcase_dec (fun _ => ?_) (fun _ => ?_) | with_reducible refine bcase_bne (fun _ => ?_) (fun _ => ?_) | with_reducible refine bcase_beq (fun _ => ?_) (fun _ => ?_) | with_reducible refine bcase_not (fun _ => ?_) (fun _ => ?_) | refine bcase_intro (fun _ => ?_) (fun _ => ?_) | refine sl_eq ?_ | refine ex_flip () ?_ ?_ | (apply ex_flip6 <;> try dsimp only) | (apply ex_flip5 <;> try dsimp only) | (apply ex_flip4 <;> try dsimp only) | (apply ex_flip3 <;> try dsimp only) | (apply ex_flip2 <;> try dsimp only) | apply ex_flip | (refine Prod.forall.2 ?_; intro _; try dsimp only) | (intro _; try dsimp only)) <;> (try dsimp only at *) <;> (try simp only [i64max, List.length_cons, List.length_nil]) <;> (try omega))

def s_slIdx  : Sig := { X := List UInt8 × List UInt8, args := fun x => [.str x.1, .str x.2], pre := fun x => x.2.length = 1, Y := Unit, post := fun x y => True, res := fun x y => .int .i64 (idxI x.1 (x.2.headD 0)), outs := fun x y => [.top, .top], keep := false }
theorem slIdx_vc (x : List UInt8 × List UInt8) : vcFun Go.Proofs.Tryd.prog (Γof [(107, 0, s_idxB)]) (Eof []) false (Lof ([])) Go.Proofs.Tryd.f117.ntmps Go.Proofs.Tryd.f117.results.toList (Go.Proofs.Tryd.f117.body.getD .skip) s_slIdx x = ((∀ (y : Unit), True → True ∧ True ∧ True ∧ True) ∧ bcase ((↑(List.length x.snd) : Int) == (0 : Int)) (∃ (y : Unit), True ∧ (0 : Int) = idxI x.fst (List.headD x.snd (0 : UInt8)) ∧ True) (bcase (x.snd == x.fst) (∃ (y : Unit), True ∧ (0 : Int) = idxI x.fst (List.headD x.snd (0 : UInt8)) ∧ True) (bcase ((↑(List.length x.snd) : Int) == (1 : Int)) (((0 : Int) ≤ (0 : Int) ∧ (0 : Int) < (↑(List.length x.snd) : Int)) ∧ ∀ (c : UInt8), x.snd[(0 : Nat)]? = some c → ∃ (x_1 : List UInt8 × UInt8), True ∧ x.fst = x_1.fst ∧ (↑(UInt8.toNat c) : Int) = (↑(UInt8.toNat x_1.snd) : Int) ∧ ∀ (y : Unit), True → ∃ (y : Unit), True ∧ idxI x_1.fst x_1.snd = idxI x.fst (List.headD x.snd (0 : UInt8)) ∧ True) (bcase (decide ((↑(List.length x.snd) : Int) ≥ (↑(List.length x.fst) : Int))) (∃ (y : Unit), True ∧ (-1 : Int) = idxI x.fst (List.headD x.snd (0 : UInt8)) ∧ True) False)))) := by kernel_rfl
theorem slIdx_ok  : Contract Tryd.prog 117 s_slIdx :=
  vcFun_ok (Γ := Γof [(107, 0, s_idxB)]) (E := Eof []) (ov := false) (L := fun x => Lof ([])) Tryd.func117 rfl (by decide) (Γof_ok (l := [(107, 0, s_idxB)]) ⟨idxB_ok, trivial⟩) fun (x : List UInt8 × List UInt8) (hx : x.2.length = 1) => (slIdx_vc  x).mpr (by
  (repeat' first | with_reducible rfl | exact True.intro | refine inR_i64 ?_ ?_ | with_reducible refine And.intro ?_ ?_ | with_reducible refine bcase_dec (fun _ => ?_) (fun _ => ?_) | with_reducible refine bcase_bne (fun _ => ?_) (fun _ => ?_) | with_reducible refine bcase_beq (fun _ => ?_) (fun _ => ?_) | with_reducible refine bcase_not (fun _ => ?_) (fun _ => ?_) | refine bcase_intro (fun _ => ?_) (fun _ => ?_) | refine sl_eq ?_ | refine ex_flip () ?_ ?_ | (apply ex_flip6 <;> try dsimp only) | (apply ex_flip5 <;> try dsimp only) | (apply ex_flip4 <;> try dsimp only) | (apply ex_flip3 <;> try dsimp only) | (apply ex_flip2 <;> try dsimp only) | apply ex_flip | (refine Prod.forall.2 ?_; intro _; try dsimp only) | (intro _; try dsimp only)) <;> (try dsimp only at *) <;> (try simp only [i64max, List.length_cons, List.length_nil]) <;> (try omega)
  · rename_i _ h; rw [← h]; match x.2, hx with
    | [c], _ => simp [idxI, idxOf]
  · rename_i c hc _ _
    match x.2, hx, hc with
    | [d], _, hc => simp at hc; rw [← hc]; rfl)

def s_sIdx  : Sig := { X := List UInt8 × List UInt8, args := fun x => [.str x.1, .str x.2], pre := fun x => x.2.length = 1, Y := Unit, post := fun x y => True, res := fun x y => .int .i64 (idxI x.1 (x.2.headD 0)), outs := fun x y => [.top, .top], keep := false }
theorem sIdx_vc (x : List UInt8 × List UInt8) : vcFun Go.Proofs.Tryd.prog (Γof [(117, 0, s_slIdx)]) (Eof []) false (Lof ([])) Go.Proofs.Tryd.f112.ntmps Go.Proofs.Tryd.f112.results.toList (Go.Proofs.Tryd.f112.body.getD .skip) s_sIdx x = ((∀ (y : Unit), True → True ∧ True ∧ True ∧ True) ∧ ∃ (x_1 : List UInt8 × List UInt8), List.length x_1.snd = (1 : Nat) ∧ x.fst = x_1.fst ∧ x.snd = x_1.snd ∧ ∀ (y : Unit), True → ∃ (y : Unit), True ∧ idxI x_1.fst (List.headD x_1.snd (0 : UInt8)) = idxI x.fst (List.headD x.snd (0 : UInt8)) ∧ True) := by kernel_rfl
theorem sIdx_ok  : Contract Tryd.prog 112 s_sIdx :=
  vcFun_ok (Γ := Γof [(117, 0, s_slIdx)]) (E := Eof []) (ov := false) (L := fun x => Lof ([])) Tryd.func112 rfl (by decide) (Γof_ok (l := [(117, 0, s_slIdx)]) ⟨slIdx_ok, trivial⟩) fun (x : List UInt8 × List UInt8) (hx : x.2.length = 1) => (sIdx_vc  x).mpr (by
  (repeat' first | with_reducible rfl | exact True.intro | refine inR_i64 ?_ ?_ | with_reducible refine And.intro ?_ ?_ | with_reducible refine bcase_dec (fun _ => ?_) (fun _ => ?_) | with_reducible refine bcase_bne (fun _ => ?_) (fun _ => ?_) | with_reducible refine bcase_beq (fun _ => ?_) (fun _ => ?_) | with_reducible refine bcase_not (fun _ => ?_) (fun _ => ?_) | refine bcase_intro (fun _ => ?_) (fun _ => ?_) | refine sl_eq ?_ | refine ex_flip () ?_ ?_ | (apply ex_flip6 <;> try dsimp only) | (apply ex_flip5 <;> try dsimp only) | (apply ex_flip4 <;> try dsimp only) | (apply ex_flip3 <;> try dsimp only) | (apply ex_flip2 <;> try dsimp only) | apply ex_flip | (refine Prod.forall.2 ?_; intro _; try dsimp only) | (intro _; try dsimp only)) <;> (try dsimp only at *) <;> (try simp only [i64max, List.length_cons, List.length_nil]) <;> (try omega))

def s_sHas  : Sig := { X := List UInt8 × List UInt8, args := fun x => [.str x.1, .str x.2], pre := fun x => x.2.length = 1, Y := Unit, post := fun x y => True, res := fun x y => .bool (decide (idxI x.1 (x.2.headD 0) ≥ 0)), outs := fun x y => [.top, .top], keep := false }
theorem sHas_vc (x : List UInt8 × List UInt8) : vcFun Go.Proofs.Tryd.prog (Γof [(112, 0, s_sIdx)]) (Eof []) false (Lof ([])) Go.Proofs.Tryd.f106.ntmps Go.Proofs.Tryd.f106.results.toList (Go.Proofs.Tryd.f106.body.getD .skip) s_sHas x = ((∀ (y : Unit), True → True ∧ True ∧ True ∧ True) ∧ ∃ (x_1 : List UInt8 × List UInt8), List.length x_1.snd = (1 : Nat) ∧ x.fst = x_1.fst ∧ x.snd = x_1.snd ∧ ∀ (y : Unit), True → ∃ (y : Unit), True ∧ decide (idxI x_1.fst (List.headD x_1.snd (0 : UInt8)) ≥ (0 : Int)) = decide (idxI x.fst (List.headD x.snd (0 : UInt8)) ≥ (0 : Int)) ∧ True) := by kernel_rfl
theorem sHas_ok  : Contract Tryd.prog 106 s_sHas :=
  vcFun_ok (Γ := Γof [(112, 0, s_sIdx)]) (E := Eof []) (ov := false) (L := fun x => Lof ([])) Tryd.func106 rfl (by decide) (Γof_ok (l := [(112, 0, s_sIdx)]) ⟨sIdx_ok, trivial⟩) fun (x : List UInt8 × List UInt8) (hx : x.2.length = 1) => (sHas_vc  x).mpr (by
  (repeat' first | with_reducible rfl | exact True.intro | refine inR_i64 ?_ ?_ | with_reducible refine And.intro ?_ ?_ | with_reducible refine bcase_dec (fun _ => ?_) (fun _ => ?_) | with_reducible refine bcase_bne (fun _ => ?_) (fun _ => ?_) | with_reducible refine bcase_beq (fun _ => ?_) (fun _ => ?_) | with_reducible refine bcase_not (fun _ => ?_) (fun _ => ?_) | refine bcase_intro (fun _ => ?_) (fun _ => ?_) | refine sl_eq ?_ | refine ex_flip () ?_ ?_ | (apply ex_flip6 <;> try dsimp only) | (apply ex_flip5 <;> try dsimp only) | (apply ex_flip4 <;> try dsimp only) | (apply ex_flip3 <;> try dsimp only) | (apply ex_flip2 <;> try dsimp only) | apply ex_flip | (refine Prod.forall.2 ?_; intro _; try dsimp only) | (intro _; try dsimp only)) <;> (try dsimp only at *) <;> (try simp only [i64max, List.length_cons, List.length_nil]) <;> (try omega))

def s_slPre  : Sig := { X := List UInt8 × List UInt8, args := fun x => [.str x.1, .str x.2], pre := fun x => x.2.length < 2 ^ 62 ∧ x.1.length < 2 ^ 63, Y := Unit, post := fun x y => True, res := fun x y => .bool (x.1.take x.2.length == x.2), outs := fun x y => [.top, .top], keep := false }
theorem slPre_vc (x : List UInt8 × List UInt8) : vcFun Go.Proofs.Tryd.prog (Γof []) (Eof []) false (Lof ([])) Go.Proofs.Tryd.f104.ntmps Go.Proofs.Tryd.f104.results.toList (Go.Proofs.Tryd.f104.body.getD .skip) s_slPre x = ((∀ (y : Unit), True → True ∧ True ∧ True ∧ True) ∧ bcase (decide ((↑(List.length x.fst) : Int) ≥ (↑(List.length x.snd) : Int))) (((0 : Int) ≤ (0 : Int) ∧ (0 : Int) ≤ (↑(List.length x.snd) : Int) ∧ (↑(List.length x.snd) : Int) ≤ (↑(List.length x.fst) : Int)) ∧ ∃ (y : Unit), True ∧ (List.take (Int.toNat (↑(List.length x.snd) : Int)) x.fst == x.snd) = (List.take (List.length x.snd) x.fst == x.snd) ∧ True) (∃ (y : Unit), True ∧ false = (List.take (List.length x.snd) x.fst == x.snd) ∧ True)) := by kernel_rfl
theorem slPre_ok  : Contract Tryd.prog 104 s_slPre :=
  vcFun_ok (Γ := Γof []) (E := Eof []) (ov := false) (L := fun x => Lof ([])) Tryd.func104 rfl (by decide) (Γof_ok (l := []) trivial) fun (x : List UInt8 × List UInt8) (hx : x.2.length < 2 ^ 62 ∧ x.1.length < 2 ^ 63) => (slPre_vc  x).mpr (by
  obtain ⟨h1, h2⟩ := hx
  (repeat' first | with_reducible rfl | exact True.intro | refine inR_i64 ?_ ?_ | with_reducible refine And.intro ?_ ?_ | with_reducible refine bcase_dec (fun _ => ?_) (fun _ => ?_) | with_reducible refine bcase_bne (fun _ => ?_) (fun _ => ?_) | with_reducible refine bcase_beq (fun _ => ?_) (fun _ => ?_) | with_reducible refine bcase_not (fun _ => ?_) (fun _ => ?_) | refine bcase_intro (fun _ => ?_) (fun _ => ?_) | refine sl_eq ?_ | refine ex_flip () ?_ ?_ | (apply ex_flip6 <;> try dsimp only) | (apply ex_flip5 <;> try dsimp only) | (apply ex_flip4 <;> try dsimp only) | (apply ex_flip3 <;> try dsimp only) | (apply ex_flip2 <;> try dsimp only) | apply ex_flip | (refine Prod.forall.2 ?_; intro _; try dsimp only) | (intro _; try dsimp only)) <;> (try dsimp only at *) <;> (try simp only [i64max, List.length_cons, List.length_nil]) <;> (try omega)
  · simp
  · rename_i h; rw [eq_comm, beq_eq_false_iff_ne]; intro e; have := congrArg List.length e; simp at this; omega)

def s_sPre  : Sig := { X := List UInt8 × List UInt8, args := fun x => [.str x.1, .str x.2], pre := fun x => x.2.length < 2 ^ 62 ∧ x.1.length < 2 ^ 63, Y := Unit, post := fun x y => True, res := fun x y => .bool (x.1.take x.2.length == x.2), outs := fun x y => [.top, .top], keep := false }
theorem sPre_vc (x : List UInt8 × List UInt8) : vcFun Go.Proofs.Tryd.prog (Γof [(104, 0, s_slPre)]) (Eof []) false (Lof ([])) Go.Proofs.Tryd.f98.ntmps Go.Proofs.Tryd.f98.results.toList (Go.Proofs.Tryd.f98.body.getD .skip) s_sPre x = ((∀ (y : Unit), True → True ∧ True ∧ True ∧ True) ∧ ∃ (x_1 : List UInt8 × List UInt8), (List.length x_1.snd < (4611686018427387904 : Nat) ∧ List.length x_1.fst < (9223372036854775808 : Nat)) ∧ x.fst = x_1.fst ∧ x.snd = x_1.snd ∧ ∀ (y : Unit), True → ∃ (y : Unit), True ∧ (List.take (List.length x_1.snd) x_1.fst == x_1.snd) = (List.take (List.length x.snd) x.fst == x.snd) ∧ True) := by kernel_rfl
theorem sPre_ok  : Contract Tryd.prog 98 s_sPre :=
  vcFun_ok (Γ := Γof [(104, 0, s_slPre)]) (E := Eof []) (ov := false) (L := fun x => Lof ([])) Tryd.func98 rfl (by decide) (Γof_ok (l := [(104, 0, s_slPre)]) ⟨slPre_ok, trivial⟩) fun (x : List UInt8 × List UInt8) (hx : x.2.length < 2 ^ 62 ∧ x.1.length < 2 ^ 63) => (sPre_vc  x).mpr (by
  obtain ⟨h1, h2⟩ := hx
  (repeat' first | with_reducible rfl | exact True.intro | refine inR_i64 ?_ ?_ | with_reducible refine And.intro ?_ ?_ | with_reducible refine bcase_dec (fun _ => ?_) (fun _ => ?_) | with_reducible refine bcase_bne (fun _ => ?_) (fun _ => ?_) | with_reducible refine bcase_beq (fun _ => ?_) (fun _ => ?_) | with_reducible refine bcase_not (fun _ => ?_) (fun _ => ?_) | refine bcase_intro (fun _ => ?_) (fun _ => ?_) | refine sl_eq ?_ | refine ex_flip () ?_ ?_ | (apply ex_flip6 <;> try dsimp only) | (apply ex_flip5 <;> try dsimp only) | (apply ex_flip4 <;> try dsimp only) | (apply ex_flip3 <;> try dsimp only) | (apply ex_flip2 <;> try dsimp only) | apply ex_flip | (refine Prod.forall.2 ?_; intro _; try dsimp only) | (intro _; try dsimp only)) <;> (try dsimp only at *) <;> (try simp only [i64max, List.length_cons, List.length_nil]) <;> (try omega))

end Go.My
