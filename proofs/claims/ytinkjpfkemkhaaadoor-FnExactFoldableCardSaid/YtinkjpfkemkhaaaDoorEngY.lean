/- From a function's contract to a row: a law that returns true. -/
import Derived.Test.YtinkjpfkemkhaaaDoorEngX
set_option linter.unusedVariables false
set_option linter.unusedSimpArgs false
namespace Go.Eng
open Go.ChangeShapes Go.WideShapes Go.ChangeAt Go.RowKit

theorem after_below {Z Z' A' : FP} {w w' : World} (h : After Z w (fun _ => False) Z' w' A') : Below w.heap.size w w' :=
  ⟨h.os, h.tape, h.output, h.size, fun b hb => (h.old b hb (fun x => x)).1⟩

theorem trodAll_below {H : Type} {enc : TypeId × Value → H} {P : Program} (hl : laidOutB P = true) {W W' : World} (hb : Below W.heap.size W W') :
    ∀ (ts : List TypeId) (vs : List Value) (ds : List (DataW H)) (ps : List MemPlace), ts.all (fun t => P.readableRec t && decide (t < P.types.size)) = true →
    DataW.TrodAll enc P W 0 (fun _ => true) true ts vs ds ps → (∀ x ∈ ps, x.block < W.heap.size) → DataW.TrodAll enc P W' 0 (fun b => decide (b < W.heap.size)) true ts vs ds ps
  | [], [], [], ps, ht, h, hp => h
  | t :: ts, v :: vs, d :: ds, ps, ht, h, hp => by
    obtain ⟨p, q, h1, h2, rfl⟩ := h
    simp only [List.all_cons, Bool.and_eq_true, decide_eq_true_eq] at ht
    exact ⟨p, q, Below.trod hl ht.1.1 ht.1.2 h1 hb (fun x hx => hp x (List.mem_append_left _ hx)), trodAll_below hl hb ts vs ds q ht.2 h2 (fun x hx => hp x (List.mem_append_right _ hx)), rfl⟩
  | [], _ :: _, _, _, ht, h, hp => h.elim
  | [], [], _ :: _, _, ht, h, hp => h.elim
  | _ :: _, [], _, _, ht, h, hp => h.elim
  | _ :: _, _ :: _, [], _, ht, h, hp => h.elim

theorem law_post {H : Type} {enc : TypeId × Value → H} {P : Program} {f : Func} {s : ChangeSpec} {W W' : World} {args : Array Value} {ds gs : List (DataW H)} {before : List MemPlace} {tb : TypeId}
    (hl : laidOutB P = true) (ht : f.params.toList.all (fun t => P.readableRec t && decide (t < P.types.size)) = true) (hv : s.vars = [])
    (hs : s.fn H ds = { results := [.lit (.bool true)], args := ds }) (hr : f.resultTypes = #[tb]) (htb : P.underlying tb = some .bool)
    (hW : DataW.Whole enc P f.params.toList s.vars false W args.toList ds gs before) (hb : Below W.heap.size W W') : s.post enc P f false true false false W args (.bool true) W' := by
  have hW0 := hW
  obtain ⟨p, q, hA, hV, rfl, hfz, hnd⟩ := hW
  rw [hv] at hV
  obtain ⟨rfl, rfl⟩ := trodVars_none hV
  refine ⟨ds, [], p ++ [], [], p, [], hW0, ?_, ?_, ?_, hb.frame _, fun h => by cases h⟩
  · simp only [List.append_nil]
    rw [hs, hr]
    exact trodAll_mk1 (shut_bool htb _)
  · simp only [List.append_nil]
    rw [hs]
    exact trodAll_below hl hb _ _ _ _ ht hA (fun x hx => by simpa using hW0.lt x (by simpa using hx))
  · simp only [List.append_nil]
    rw [hs, hv]
    rfl

/- a law's signature -/
def lawSig (X : Type) (args : X → List AV) (pre : X → Prop) (n : Nat) : Sig :=
  { X := X, args := args, pre := pre, Y := Unit, post := fun _ _ => True, res := fun _ _ => .bool true, outs := fun _ _ => List.replicate n .top, keep := false }

theorem law_calls {H : Type} {enc : TypeId × Value → H} {P : Program} {fi : FuncId} {f : Func} {s : ChangeSpec} {W : World} {args : Array Value} {ds gs : List (DataW H)} {before : List MemPlace} {tb : TypeId}
    {X : Type} {as : X → List AV} {pre : X → Prop} {n : Nat} (hc : Contract P fi (lawSig X as pre n))
    (hl : laidOutB P = true) (ht : f.params.toList.all (fun t => P.readableRec t && decide (t < P.types.size)) = true) (hv : s.vars = [])
    (hs : s.fn H ds = { results := [.lit (.bool true)], args := ds }) (hr : f.resultTypes = #[tb]) (htb : P.underlying tb = some .bool)
    (hW : DataW.Whole enc P f.params.toList s.vars false W args.toList ds gs before)
    (ho : ∃ x, pre x ∧ rel0L (Old W) W (as x) args.toList (fun _ => False)) :
    Calls P fi args W fun e W' => ∃ v, e = .returned v ∧ s.post enc P f false true false false W args v W' := by
  obtain ⟨x, hx, hrel⟩ := ho
  refine (hc.2 x hx (Old W) W args.toList _ hrel (fun b h => h.elim)).mono fun e W' h => ?_
  obtain ⟨y, v, Z', A', _, rfl, hr2, hafter⟩ := h
  simp only [rel0L] at hr2
  obtain ⟨v', us, A1, A2, e1, _, h1, _⟩ := hr2
  simp only [List.cons.injEq] at e1
  obtain ⟨rfl, _⟩ := e1
  have : v = .bool true := by
    have h1 : rel0 Z' W' (.bool true) v A1 := h1
    simp only [rel0] at h1; exact h1.1
  subst this
  exact ⟨_, rfl, law_post hl ht hv hs hr htb hW (after_below hafter)⟩
end Go.Eng
