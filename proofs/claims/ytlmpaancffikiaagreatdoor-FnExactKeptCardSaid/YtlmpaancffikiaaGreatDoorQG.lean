/- A part of the proof: the engine and the contracts, joined. -/
import Derived.Test.YtlmpaancffikiaaGreatDoorQF
section
set_option linter.unusedVariables false
set_option linter.unusedSimpArgs false
namespace Go.My
open Go.Eng
def gAdv (g : Gs) : Gs := ⟨g.pos + 1, g.deep, g.bad, g.nodes⟩
def gBad (g : Gs) : Gs := ⟨g.pos, g.deep, true, g.nodes⟩
def gDp (g : Gs) (d : Int) : Gs := ⟨g.pos, g.deep + d, g.bad, g.nodes⟩
def gSkip (sg : List Sg) (g : Gs) (m : List UInt8) : Gs := if isG sg g 4 m then gAdv g else g
def gTake (sg : List Sg) (g : Gs) (m : List UInt8) : Gs := if isG sg g 4 m then gAdv g else gBad g
def gPass (g : Gs) : Gs := if g.bad then g else gAdv g
def gFull (g : Gs) : Bool := g.bad || decide (g.nodes.length = 300)
def gAdd (g : Gs) (x : Nd) : Gs := if gFull g then gBad g else ⟨g.pos, g.deep, g.bad, g.nodes ++ [x]⟩
def gAddK (g : Gs) : Int := if gFull g then 0 else g.nodes.length
def gClose (sg : List Sg) (g : Gs) (m : List UInt8) (x : Nd) : Gs := if isG sg g 4 m then gPass (gAdd g x) else gBad g
def gCloseK (sg : List Sg) (g : Gs) (m : List UInt8) : Int := if isG sg g 4 m then gAddK g else 0
def gLeaf (sg : List Sg) (g : Gs) (k : Int) (b : Bool) : Gs := gPass (gAdd g ⟨k, (pkG sg g 0).text, [], b⟩)
def gNameN (sg : List Sg) (g : Gs) : Gs := if nmG sg g 0 then gLeaf sg g 1 false else gBad g
def gNameK (sg : List Sg) (g : Gs) : Int := if nmG sg g 0 then gAddK g else 0
def gName (sg : List Sg) (g : Gs) : Gs := if nmG sg g 0 then gAdv g else gBad g
def gNameT (sg : List Sg) (g : Gs) : List UInt8 := if nmG sg g 0 then (pkG sg g 0).text else []
theorem adv_ok {sg : List Sg} {g : Gs} (h : gsOk sg g) (hl : g.pos < sg.length) : gsOk sg (gAdv g) := by
  obtain ⟨h1, h2⟩ := h
  exact ⟨by simp only [gAdv]; omega, h2⟩
theorem bad_ok {sg : List Sg} {g : Gs} (h : gsOk sg g) : gsOk sg (gBad g) := h
theorem adv_pur {g : Gs} : pur (gAdv g) = (pur g).map adv := by
  cases h : g.bad <;> simp [pur, gAdv, h, adv]
theorem bad_pur {g : Gs} : pur (gBad g) = none := by simp [pur, gBad]
theorem skip_yes {sg : List Sg} {g : Gs} {k : Int} {m : List UInt8} (h : gsOk sg g) (hk : k ≠ 0) (hm : isG sg g k m = true) : stepP sg g (fun s => if isT sg s k m then some (adv s) else none) (gAdv g) ∧ (gAdv g).bad = false ∧ g.pos < (gAdv g).pos := by
  obtain ⟨h1, h2⟩ := isG_lt hm hk
  refine ⟨⟨adv_ok h h2, rfl, by simp only [gAdv]; omega, ?_⟩, h1, by simp only [gAdv]; omega⟩
  rw [adv_pur, pur_f h1]
  have : isT sg ⟨g.pos, g.deep, g.nodes⟩ k m = true := by rw [← isG_f (pur_f h1)]; exact hm
  simp [this]
theorem skip_no {sg : List Sg} {g : Gs} {s : Ps} {k : Int} {m : List UInt8} (hm : isG sg g k m = false) (hs : pur g = some s) : isT sg s k m = false := by rw [← isG_f hs]; exact hm
theorem skip_y {sg : List Sg} {g : Gs} {s : Ps} {k : Int} {m : List UInt8} (hm : isG sg g k m = true) (hs : pur g = some s) : isT sg s k m = true := by rw [← isG_f hs]; exact hm
theorem take_step {sg : List Sg} {g : Gs} {m : List UInt8} (h : gsOk sg g) : stepP sg g (wantM sg m) (gTake sg g m) ∧ ((gTake sg g m).bad = false → g.pos < (gTake sg g m).pos) := by
  unfold gTake
  cases hm : isG sg g 4 m with
  | true =>
    obtain ⟨h1, h2, h3⟩ := skip_yes h (by omega) hm
    simp only [if_true]
    exact ⟨h1, fun _ => h3⟩
  | false =>
    simp only [Bool.false_eq_true, if_false]
    refine ⟨⟨bad_ok h, rfl, Int.le_refl _, ?_⟩, fun hb => by simp [gBad] at hb⟩
    rw [bad_pur]
    cases hs : pur g with
    | none => rfl
    | some s =>
      simp only [Option.bind_some, wantM, isM, skip_no hm hs]; rfl
theorem full_f {g : Gs} (h : gFull g = false) : g.bad = false ∧ g.nodes.length ≠ 300 := by
  simpa [gFull] using h
theorem add_ok {sg : List Sg} {g : Gs} {x : Nd} (h : gsOk sg g) (hx : nodB x) : gsOk sg (gAdd g x) := by
  unfold gAdd
  cases hf : gFull g with
  | true => exact bad_ok h
  | false =>
    obtain ⟨h1, h2⟩ := full_f hf
    obtain ⟨a, b, c, d⟩ := h
    refine ⟨a, b, ?_, ?_⟩
    · simp; omega
    · simp only [Bool.false_eq_true, if_false]
      intro y hy
      rcases List.mem_append.1 hy with hy | hy
      · exact d y hy
      · simp at hy; subst hy; exact hx
theorem add_pur {sg : List Sg} {g : Gs} {x : Nd} (h : gsOk sg g) : pur (gAdd g x) = ((pur g).bind (putR x)).map (·.2) ∧ ∀ p, (pur g).bind (putR x) = some p → gAddK g = p.1 := by
  unfold gAdd gAddK
  cases hf : gFull g with
  | true =>
    simp only [if_true, bad_pur]
    have : (pur g).bind (putR x) = none := by
      cases hs : pur g with
      | none => rfl
      | some s =>
        obtain ⟨h1, rfl⟩ := pur_some.1 hs
        have h3 : g.nodes.length = 300 := by simpa [gFull, h1] using hf
        simp [putR, h3]
    rw [this]; exact ⟨rfl, fun p hp => by cases hp⟩
  | false =>
    obtain ⟨h1, h2⟩ := full_f hf
    have h3 : g.nodes.length ≤ 300 := h.2.2.1
    have h4 : ¬ 300 ≤ g.nodes.length := by omega
    simp [pur, h1, putR, h4]
theorem add_res {sg : List Sg} {g : Gs} {x : Nd} (h : gsOk sg g) (hx : nodB x) : resP sg g (putR x) (gAddK g, gAdd g x) := by
  refine ⟨add_ok h hx, ?_, ?_, (add_pur h).1, (add_pur h).2⟩
  · simp only [gAdd]; split <;> rfl
  · simp only [gAdd]; split <;> exact Int.le_refl _
theorem pass_nod {sg : List Sg} {g : Gs} {x : Nd} (h : gsOk sg g) (hx : nodB x) (hl : g.bad = false → g.pos < sg.length) : nodP sg g (fun s => advR (putR x s)) (gAddK g, gPass (gAdd g x)) := by
  obtain ⟨h1, h2, h3, h4, h5⟩ := add_res h hx
  simp only at h1 h2 h3 h4 h5
  have hp : pur (gPass (gAdd g x)) = (pur (gAdd g x)).map adv := by
    unfold gPass
    cases hb : (gAdd g x).bad with
    | true => rw [pur_t hb]; simp [pur_t hb]
    | false => simp only [Bool.false_eq_true, if_false]; exact adv_pur
  have hpos : (gAdd g x).pos = g.pos := by simp only [gAdd]; split <;> rfl
  have hbad : (gAdd g x).bad = false → g.bad = false := by
    intro hb; simp only [gAdd] at hb; split at hb
    · simp [gBad] at hb
    · exact hb
  refine ⟨⟨?_, ?_, ?_, ?_, ?_⟩, ?_⟩
  · simp only [gPass]; split
    · exact h1
    · rename_i hb
      exact adv_ok h1 (by rw [hpos]; exact hl (hbad (by simpa using hb)))
  · simp only [gPass]; split <;> simpa [gAdv] using h2
  · simp only [gPass]; split
    · exact h3
    · simp only [gAdv]; omega
  · simp only; rw [hp, h4]
    cases hs : pur g with
    | none => rfl
    | some s => simp only [Option.bind_some, advR]; cases putR x s <;> rfl
  · intro p hp2
    simp only
    cases hs : pur g with
    | none => rw [hs] at hp2; cases hp2
    | some s =>
      rw [hs] at hp2 h5
      simp only [Option.bind_some, advR, Option.map_eq_some_iff] at hp2
      obtain ⟨q, hq, rfl⟩ := hp2
      exact h5 q (by simpa using hq)
  · simp only [gPass]
    split
    · rename_i hb; intro hh; rw [hb] at hh; cases hh
    · intro _; simp only [gAdv]; omega
theorem close_nod {sg : List Sg} {g : Gs} {m : List UInt8} {x : Nd} (h : gsOk sg g) (hx : nodB x) : nodP sg g (closeR sg m x) (gCloseK sg g m, gClose sg g m x) := by
  unfold gClose gCloseK
  cases hm : isG sg g 4 m with
  | true =>
    obtain ⟨hb, hl⟩ := isG_lt hm (by omega)
    have := pass_nod h hx (fun _ => hl)
    simp only [if_true]
    have e : (pur g).bind (closeR sg m x) = (pur g).bind fun s => advR (putR x s) := by
      rw [pur_f hb]
      have : isM sg ⟨g.pos, g.deep, g.nodes⟩ m = true := skip_y hm (pur_f hb)
      simp [closeR, this]
    obtain ⟨⟨a1, a2, a3, a4, a5⟩, a6⟩ := this
    exact ⟨⟨a1, a2, a3, by rw [e]; exact a4, by rw [e]; exact a5⟩, a6⟩
  | false =>
    simp only [Bool.false_eq_true, if_false]
    have e : (pur g).bind (closeR sg m x) = none := by
      cases hs : pur g with
      | none => rfl
      | some s =>
        have : isM sg s m = false := skip_no hm hs
        simp [closeR, this]
    refine ⟨⟨bad_ok h, rfl, Int.le_refl _, by rw [e]; exact bad_pur, fun p hp => by rw [e] at hp; cases hp⟩, fun hb => by simp [gBad] at hb⟩
theorem sgO_text {sg : List Sg} (h : sgB sg) {i : Int} : (sgO sg i).text.length ≤ 3000 := by
  unfold sgO; rw [List.getD]
  cases hx : sg[i.toNat]? with
  | none => simp [sg00]
  | some e => exact h.2 e (memE hx)
theorem pkG_text {sg : List Sg} (h : sgB sg) {g : Gs} {n : Int} : (pkG sg g n).text.length ≤ 3000 := by
  unfold pkG; split
  · simp [sg00]
  · exact sgO_text h
theorem leaf_nod {sg : List Sg} {g : Gs} {k : Int} {b : Bool} (hs : sgB sg) (h : gsOk sg g) (hl : g.bad = false → g.pos < sg.length) : nodP sg g (leafR sg k b) (gAddK g, gLeaf sg g k b) := by
  have hx : nodB ⟨k, (pkG sg g 0).text, [], b⟩ := ⟨pkG_text hs, by simp⟩
  have := pass_nod (x := ⟨k, (pkG sg g 0).text, [], b⟩) h hx hl
  have e : (pur g).bind (leafR sg k b) = (pur g).bind fun s => advR (putR ⟨k, (pkG sg g 0).text, [], b⟩ s) := by
    cases hs : pur g with
    | none => rfl
    | some s =>
      obtain ⟨h1, rfl⟩ := pur_some.1 hs
      simp [leafR, pkG_f h1]
  obtain ⟨⟨a1, a2, a3, a4, a5⟩, a6⟩ := this
  exact ⟨⟨a1, a2, a3, by rw [e]; exact a4, by rw [e]; exact a5⟩, a6⟩
theorem nameN_nod {sg : List Sg} {g : Gs} (hs : sgB sg) (h : gsOk sg g) : nodP sg g (nameR sg) (gNameK sg g, gNameN sg g) := by
  unfold gNameN gNameK
  cases hm : nmG sg g 0 with
  | true =>
    obtain ⟨hb, hl⟩ := nmG_lt hm
    simp only [if_true]
    obtain ⟨⟨a1, a2, a3, a4, a5⟩, a6⟩ := leaf_nod (k := 1) (b := false) hs h (fun _ => by omega)
    have e : (pur g).bind (nameR sg) = (pur g).bind (leafR sg 1 false) := by
      rw [pur_f hb]
      have : nmAt sg g.pos = true := by have := nmG_f (sg := sg) (n := 0) (pur_f hb); rw [hm] at this; simpa using this.symm
      simp [nameR, this]
    exact ⟨⟨a1, a2, a3, by rw [e]; exact a4, by rw [e]; exact a5⟩, a6⟩
  | false =>
    simp only [Bool.false_eq_true, if_false]
    have e : (pur g).bind (nameR sg) = none := by
      cases hs : pur g with
      | none => rfl
      | some s =>
        have : nmAt sg s.pos = false := by have := nmG_f (sg := sg) (n := 0) hs; rw [hm] at this; simpa using this.symm
        simp [nameR, this]
    refine ⟨⟨bad_ok h, rfl, Int.le_refl _, by rw [e]; exact bad_pur, fun p hp => by rw [e] at hp; cases hp⟩, fun hb => by simp [gBad] at hb⟩
theorem name_nod {sg : List Sg} {g : Gs} (h : gsOk sg g) : nodP sg g (nameT sg) (gNameT sg g, gName sg g) := by
  unfold gName gNameT
  cases hm : nmG sg g 0 with
  | true =>
    obtain ⟨hb, hl⟩ := nmG_lt hm
    simp only [if_true]
    have hn : nmAt sg g.pos = true := by have := nmG_f (sg := sg) (n := 0) (pur_f hb); rw [hm] at this; simpa using this.symm
    refine ⟨⟨adv_ok h (by omega), rfl, by simp only [gAdv]; omega, ?_, ?_⟩, fun _ => by simp only [gAdv]; omega⟩
    · simp only; rw [adv_pur, pur_f hb]; simp [nameT, hn]
    · intro p hp; rw [pur_f hb] at hp
      simp [nameT, hn] at hp
      rw [← hp, pkG_f hb]; simp
  | false =>
    simp only [Bool.false_eq_true, if_false]
    have e : (pur g).bind (nameT sg) = none := by
      cases hs : pur g with
      | none => rfl
      | some s =>
        have : nmAt sg s.pos = false := by have := nmG_f (sg := sg) (n := 0) hs; rw [hm] at this; simpa using this.symm
        simp [nameT, this]
    refine ⟨⟨bad_ok h, rfl, Int.le_refl _, by rw [e]; exact bad_pur, fun p hp => by rw [e] at hp; cases hp⟩, fun hb => by simp [gBad] at hb⟩
end Go.My
end
section
set_option linter.unusedVariables false
set_option linter.unusedSimpArgs false
namespace Go.My
open Go.Eng Go.Proofs
variable {G : GInv}
theorem ex_ndr {a : Int} {b : List UInt8} {c : List Int} {d : Bool} {o : Bool} {i : Nat} {q : Nd → Prop} (h : q ⟨a, b, c, d⟩) : ∃ x : Nd, a = x.kind ∧ b = x.text ∧ AV.sl o i 1 Int intA c = AV.sl o i 1 Int intA x.kids ∧ d = x.blank ∧ q x := ⟨⟨a, b, c, d⟩, rfl, rfl, rfl, rfl, h⟩
theorem ex_flip7 {α β γ δ ε ζ η : Type} {p q : α × β × γ × δ × ε × ζ × η → Prop} (a : α) (b : β) (c : γ) (d : δ) (e : ε) (f : ζ) (g : η) (h2 : q (a, b, c, d, e, f, g)) (h1 : p (a, b, c, d, e, f, g)) : ∃ x, p x ∧ q x := ⟨_, h1, h2⟩
theorem ex_flip8 {α β γ δ ε ζ η θ : Type} {p q : α × β × γ × δ × ε × ζ × η × θ → Prop} (a : α) (b : β) (c : γ) (d : δ) (e : ε) (f : ζ) (g : η) (h : θ) (h2 : q (a, b, c, d, e, f, g, h)) (h1 : p (a, b, c, d, e, f, g, h)) : ∃ x, p x ∧ q x := ⟨_, h1, h2⟩
theorem ex_flip9 {α β γ δ ε ζ η θ ι : Type} {p q : α × β × γ × δ × ε × ζ × η × θ × ι → Prop} (a : α) (b : β) (c : γ) (d : δ) (e : ε) (f : ζ) (g : η) (h : θ) (i : ι) (h2 : q (a, b, c, d, e, f, g, h, i)) (h1 : p (a, b, c, d, e, f, g, h, i)) : ∃ x, p x ∧ q x := ⟨_, h1, h2⟩
theorem ex_flip10 {α β γ δ ε ζ η θ ι κ : Type} {p q : α × β × γ × δ × ε × ζ × η × θ × ι × κ → Prop} (a : α) (b : β) (c : γ) (d : δ) (e : ε) (f : ζ) (g : η) (h : θ) (i : ι) (j : κ) (h2 : q (a, b, c, d, e, f, g, h, i, j)) (h1 : p (a, b, c, d, e, f, g, h, i, j)) : ∃ x, p x ∧ q x := ⟨_, h1, h2⟩
structure ST where
  sg : List Sg
  z : Int
  ms : List (Int × Int)
def mbs (ms : List (Int × Int)) : AV := .sl true 0 2 (Int × Int) (fun p => [.int .i64 p.1, .int .i64 p.2]) ms
def rdG (s : ST) (g : Gs) : AV := .box 0 [sgs s.sg, .int .i64 s.z, .int .i64 g.pos, .int .i64 g.deep, .bool g.bad, onds g.nodes, mbs s.ms]
abbrev xg (x : ST × Int × Int × Bool × List Nd) : Gs := ⟨x.2.1, x.2.2.1, x.2.2.2.1, x.2.2.2.2⟩
abbrev xh {α : Type} (x : ST × Int × Int × Bool × List Nd × α) : Gs := ⟨x.2.1, x.2.2.1, x.2.2.2.1, x.2.2.2.2.1⟩
abbrev yG (y : Int × Int × Bool × List Nd) : Gs := ⟨y.1, y.2.1, y.2.2.1, y.2.2.2⟩
abbrev yS {α : Type} (y : α × Int × Int × Bool × List Nd) : α × Gs := (y.1, ⟨y.2.1, y.2.2.1, y.2.2.2.1, y.2.2.2.2⟩)
def rOk (s : ST) (g : Gs) : Prop := sgB s.sg ∧ gsOk s.sg g
theorem rOk_n {s : ST} {g : Gs} (h : rOk s g) : ((0 ≤ g.pos ∧ g.pos ≤ s.sg.length) ∧ (0 ≤ g.deep ∧ g.deep ≤ 21)) ∧ g.nodes.length ≤ 300 ∧ s.sg.length ≤ 3000 := ⟨⟨h.2.1, h.2.2.1⟩, h.2.2.2.1, h.1.1⟩
theorem pkG_no {sg : List Sg} {g : Gs} {n : Int} (h : g.bad = true ∨ (sg.length : Int) ≤ g.pos + n) : pkG sg g n = sg00 := if_pos h
theorem pkG_yes {sg : List Sg} {g : Gs} {n : Int} {e : Sg} (he : sg[(g.pos + n).toNat]? = some e) (hb : g.bad = false) (hl : ¬ (sg.length : Int) ≤ g.pos + n) : pkG sg g n = e := by
  rw [pkG, if_neg (by simp [hb]; omega), sgO_at he]
def s_rPeek  : Sig := { X := ST × Int × Int × Bool × List Nd × Int, args := fun x => [rdG x.1 (xh x), .int .i64 x.2.2.2.2.2], pre := fun x => rOk x.1 (xh x) ∧ 0 ≤ x.2.2.2.2.2 ∧ x.2.2.2.2.2 ≤ 2 ^ 20, Y := Unit, post := fun x y => True, res := fun x y => .agg (sgA (pkG x.1.sg (xh x) x.2.2.2.2.2)), outs := fun x y => [rdG x.1 (xh x), .top], keep := true }
def i_rPeek  (x : ST × Int × Int × Bool × List Nd × Int) : LS := { ι := Unit, inv := fun _ => True, regs := fun _ => [(0, rdG x.1 (xh x)), (4, .box 0 (sgA (pkG x.1.sg (xh x) x.2.2.2.2.2)))], als := [], meas := fun _ => 0 }
theorem rPeek_ok  : Contract G Tryz.prog 141 s_rPeek :=
  vcFun_okP [] [] false (fun x => [(100003, i_rPeek  x)]) Tryz.func141 rfl (by decide) trivial (fun (x : ST × Int × Int × Bool × List Nd × Int) => True ∧ true = true ∧ true = true ∧ bcase (xh x).bad (∃ (y : Unit), True ∧ (0 : Int) = (pkG x.1.sg (xh x) x.2.2.2.2.2).kind ∧ #[].toList = (pkG x.1.sg (xh x) x.2.2.2.2.2).text ∧ (0 : Int) = (pkG x.1.sg (xh x) x.2.2.2.2.2).pos ∧ false = (pkG x.1.sg (xh x) x.2.2.2.2.2).blank ∧ sgs x.1.sg = sgs x.1.sg ∧ x.1.z = x.1.z ∧ (xh x).pos = (xh x).pos ∧ (xh x).deep = (xh x).deep ∧ (xh x).bad = (xh x).bad ∧ onds (xh x).nodes = onds (xh x).nodes ∧ mbs x.1.ms = mbs x.1.ms ∧ True) (inR IntKind.i64 ((xh x).pos + x.2.2.2.2.2) ∧ bcase (decide ((xh x).pos + x.2.2.2.2.2 ≥ (↑(List.length x.1.sg) : Int))) (∃ (y : Unit), True ∧ (0 : Int) = (pkG x.1.sg (xh x) x.2.2.2.2.2).kind ∧ #[].toList = (pkG x.1.sg (xh x) x.2.2.2.2.2).text ∧ (0 : Int) = (pkG x.1.sg (xh x) x.2.2.2.2.2).pos ∧ false = (pkG x.1.sg (xh x) x.2.2.2.2.2).blank ∧ sgs x.1.sg = sgs x.1.sg ∧ x.1.z = x.1.z ∧ (xh x).pos = (xh x).pos ∧ (xh x).deep = (xh x).deep ∧ (xh x).bad = (xh x).bad ∧ onds (xh x).nodes = onds (xh x).nodes ∧ mbs x.1.ms = mbs x.1.ms ∧ True) (true = true ∧ ((inR IntKind.i64 ((xh x).pos + x.2.2.2.2.2) ∧ ((0 : Int) ≤ (xh x).pos + x.2.2.2.2.2 ∧ (xh x).pos + x.2.2.2.2.2 < (↑(List.length x.1.sg) : Int)) ∧ ∀ (e : Sg), x.1.sg[Int.toNat ((xh x).pos + x.2.2.2.2.2)]? = some e → true = true ∧ eA (i_rPeek x) [rdG x.1 (xh x), .box 0 [.int .i64 e.kind, .str e.text, .int .i64 e.pos, .bool e.blank]]) ∧ (inR IntKind.i64 ((xh x).pos + x.2.2.2.2.2) ∧ ((0 : Int) ≤ (xh x).pos + x.2.2.2.2.2 ∧ (xh x).pos + x.2.2.2.2.2 < (↑(List.length x.1.sg) : Int)) ∧ ∀ (e : Sg), x.1.sg[Int.toNat ((xh x).pos + x.2.2.2.2.2)]? = some e → true = true ∧ eA (i_rPeek x) [rdG x.1 (xh x), .box 0 [.int .i64 e.kind, .str e.text, .int .i64 e.pos, .bool e.blank]]) ∧ inR IntKind.i64 ((xh x).pos + x.2.2.2.2.2) ∧ ((0 : Int) ≤ (xh x).pos + x.2.2.2.2.2 ∧ (xh x).pos + x.2.2.2.2.2 < (↑(List.length x.1.sg) : Int)) ∧ ∀ (e : Sg), x.1.sg[Int.toNat ((xh x).pos + x.2.2.2.2.2)]? = some e → true = true ∧ eA (i_rPeek x) [rdG x.1 (xh x), .box 0 [.int .i64 e.kind, .str e.text, .int .i64 e.pos, .bool e.blank]]) ∧ ∀ (i : Unit), True → ∃ (y : Unit), True ∧ (pkG x.1.sg (xh x) x.2.2.2.2.2).kind = (pkG x.1.sg (xh x) x.2.2.2.2.2).kind ∧ (pkG x.1.sg (xh x) x.2.2.2.2.2).text = (pkG x.1.sg (xh x) x.2.2.2.2.2).text ∧ (pkG x.1.sg (xh x) x.2.2.2.2.2).pos = (pkG x.1.sg (xh x) x.2.2.2.2.2).pos ∧ (pkG x.1.sg (xh x) x.2.2.2.2.2).blank = (pkG x.1.sg (xh x) x.2.2.2.2.2).blank ∧ sgs x.1.sg = sgs x.1.sg ∧ x.1.z = x.1.z ∧ (xh x).pos = (xh x).pos ∧ (xh x).deep = (xh x).deep ∧ (xh x).bad = (xh x).bad ∧ onds (xh x).nodes = onds (xh x).nodes ∧ mbs x.1.ms = mbs x.1.ms ∧ True))) (fun x => by kernel_rfl) fun (x : ST × Int × Int × Bool × List Nd × Int) (hx : rOk x.1 (xh x) ∧ 0 ≤ x.2.2.2.2.2 ∧ x.2.2.2.2.2 ≤ 2 ^ 20) => (by
  dsimp only [eA, i_rPeek, mbs, ndA_e, onds, rdG, sgA_e, sgs, hndL, hnd1, sndL]
  obtain ⟨s, p, d, b, ns, e⟩ := x; dsimp only [xg, xh] at hx ⊢
  obtain ⟨h1, h2, h3⟩ := hx; have hs := rOk_n h1; dsimp only at hs
  (repeat' first | (with_reducible first | rfl | exact True.intro | apply inR_i64 | apply And.intro | ((first | apply bcase_dec | apply bcase_bne | apply bcase_beq | apply bcase_not) <;> intro _)) | (apply bcase_intro <;> intro _) | apply sl_eq | refine ex_flip () ?_ ?_ | ((first | apply ex_flip10 | apply ex_flip9 | apply ex_flip8 | apply ex_flip7 | apply ex_flip6 | apply ex_flip5 | apply ex_flip4 | apply ex_flip3 | apply ex_flip2) <;> try dsimp only) | apply ex_flip | (refine Prod.forall.2 ?_; intro _; try dsimp only) | (intro _; try dsimp only))
  all_goals first
    | rfl
    | (rw [pkG_no (.inl (by assumption))]; rfl)
    | (rw [pkG_no (.inr (by omega))]; rfl)
    | (rw [pkG_yes (by assumption) (by assumption) (by omega)]; done)
    | ((try simp only [i64max]); omega)
    | skip)
def s_rNext  : Sig := { X := ST × Int × Int × Bool × List Nd, args := fun x => [rdG x.1 (xg x)], pre := fun x => rOk x.1 (xg x), Y := Unit, post := fun x y => True, res := fun x y => .agg (sgA (pkG x.1.sg (xg x) 0)), outs := fun x y => [rdG x.1 (xg x)], keep := true }
theorem rNext_ok  : Contract G Tryz.prog 103 s_rNext :=
  vcFun_okP [(141, 0, s_rPeek)] [] false (fun x => []) Tryz.func103 rfl (by decide) ⟨rPeek_ok, trivial⟩ (fun (x : ST × Int × Int × Bool × List Nd) => True ∧ cA s_rPeek [rdG x.1 (xg x), .int .i64 (0 : Int)] fun x_1 y => ∃ (y : Unit), True ∧ (pkG x_1.1.sg (xh x_1) x_1.2.2.2.2.2).kind = (pkG x.1.sg (xg x) (0 : Int)).kind ∧ (pkG x_1.1.sg (xh x_1) x_1.2.2.2.2.2).text = (pkG x.1.sg (xg x) (0 : Int)).text ∧ (pkG x_1.1.sg (xh x_1) x_1.2.2.2.2.2).pos = (pkG x.1.sg (xg x) (0 : Int)).pos ∧ (pkG x_1.1.sg (xh x_1) x_1.2.2.2.2.2).blank = (pkG x.1.sg (xg x) (0 : Int)).blank ∧ sgs x_1.1.sg = sgs x.1.sg ∧ x_1.1.z = x.1.z ∧ (xh x_1).pos = (xg x).pos ∧ (xh x_1).deep = (xg x).deep ∧ (xh x_1).bad = (xg x).bad ∧ onds (xh x_1).nodes = onds (xg x).nodes ∧ mbs x_1.1.ms = mbs x.1.ms ∧ True) (fun x => by kernel_rfl) fun (x : ST × Int × Int × Bool × List Nd) (hx : rOk x.1 (xg x)) => (by
  dsimp only [cA, mbs, ndA_e, onds, rdG, s_rPeek, sgA_e, sgs, hndL, hnd1, mvL, lnL, mvE, lnE]
  obtain ⟨s, p, d, b, ns⟩ := x; dsimp only [xg, xh] at hx ⊢
  have hx : rOk s ⟨p, d, b, ns⟩ := hx
  (repeat' first | (with_reducible first | rfl | exact True.intro | apply inR_i64 | apply And.intro | ((first | apply bcase_dec | apply bcase_bne | apply bcase_beq | apply bcase_not) <;> intro _)) | (apply bcase_intro <;> intro _) | apply sl_eq | refine ex_flip () ?_ ?_ | ((first | apply ex_flip10 | apply ex_flip9 | apply ex_flip8 | apply ex_flip7 | apply ex_flip6 | apply ex_flip5 | apply ex_flip4 | apply ex_flip3 | apply ex_flip2) <;> try dsimp only) | apply ex_flip | (refine Prod.forall.2 ?_; intro _; try dsimp only) | (intro _; try dsimp only))
  all_goals first
    | rfl
    | exact hx
    | omega
    | skip)
def s_rIs  : Sig := { X := ST × Int × Int × Bool × List Nd × List UInt8, args := fun x => [rdG x.1 (xh x), .str x.2.2.2.2.2], pre := fun x => rOk x.1 (xh x), Y := Unit, post := fun x y => True, res := fun x y => .bool (isG x.1.sg (xh x) 4 x.2.2.2.2.2), outs := fun x y => [rdG x.1 (xh x), .top], keep := true }
theorem rIs_ok  : Contract G Tryz.prog 166 s_rIs :=
  vcFun_okP [(103, 0, s_rNext)] [] false (fun x => []) Tryz.func166 rfl (by decide) ⟨rNext_ok, trivial⟩ (fun (x : ST × Int × Int × Bool × List Nd × List UInt8) => True ∧ cA s_rNext [rdG x.1 (xh x)] fun x_1 y => bcase ((pkG x_1.1.sg (xg x_1) (0 : Int)).kind == (4 : Int)) (cA s_rNext [rdG x_1.1 (xg x_1)] fun x_2 y => rA s_rIs x [.bool ((pkG x_2.1.sg (xg x_2) (0 : Int)).text == x.2.2.2.2.2), rdG x_2.1 (xg x_2), .top]) (rA s_rIs x [.bool false, rdG x_1.1 (xg x_1), .top])) (fun x => by kernel_rfl) fun (x : ST × Int × Int × Bool × List Nd × List UInt8) (hx : rOk x.1 (xh x)) => (by
  dsimp only [cA, mbs, ndA_e, onds, rA, rdG, s_rIs, s_rNext, sgA_e, sgs, hndL, hnd1, mvL, lnL, mvE, lnE]
  obtain ⟨s, p, d, b, ns, e⟩ := x; dsimp only [xg, xh] at hx ⊢
  have hx : rOk s ⟨p, d, b, ns⟩ := hx
  (repeat' first | (with_reducible first | rfl | exact True.intro | apply inR_i64 | apply And.intro | ((first | apply bcase_dec | apply bcase_bne | apply bcase_beq | apply bcase_not) <;> intro _)) | (apply bcase_intro <;> intro _) | apply sl_eq | refine ex_flip () ?_ ?_ | ((first | apply ex_flip10 | apply ex_flip9 | apply ex_flip8 | apply ex_flip7 | apply ex_flip6 | apply ex_flip5 | apply ex_flip4 | apply ex_flip3 | apply ex_flip2) <;> try dsimp only) | apply ex_flip | (refine Prod.forall.2 ?_; intro _; try dsimp only) | (intro _; try dsimp only))
  all_goals first
    | rfl
    | exact hx
    | (simp [isG, *]; done)
    | skip)
def s_rIsW  : Sig := { X := ST × Int × Int × Bool × List Nd × List UInt8, args := fun x => [rdG x.1 (xh x), .str x.2.2.2.2.2], pre := fun x => rOk x.1 (xh x), Y := Unit, post := fun x y => True, res := fun x y => .bool (isG x.1.sg (xh x) 1 x.2.2.2.2.2), outs := fun x y => [rdG x.1 (xh x), .top], keep := true }
theorem rIsW_ok  : Contract G Tryz.prog 133 s_rIsW :=
  vcFun_okP [(103, 0, s_rNext)] [] false (fun x => []) Tryz.func133 rfl (by decide) ⟨rNext_ok, trivial⟩ (fun (x : ST × Int × Int × Bool × List Nd × List UInt8) => True ∧ cA s_rNext [rdG x.1 (xh x)] fun x_1 y => bcase ((pkG x_1.1.sg (xg x_1) (0 : Int)).kind == (1 : Int)) (cA s_rNext [rdG x_1.1 (xg x_1)] fun x_2 y => rA s_rIsW x [.bool ((pkG x_2.1.sg (xg x_2) (0 : Int)).text == x.2.2.2.2.2), rdG x_2.1 (xg x_2), .top]) (rA s_rIsW x [.bool false, rdG x_1.1 (xg x_1), .top])) (fun x => by kernel_rfl) fun (x : ST × Int × Int × Bool × List Nd × List UInt8) (hx : rOk x.1 (xh x)) => (by
  dsimp only [cA, mbs, ndA_e, onds, rA, rdG, s_rIsW, s_rNext, sgA_e, sgs, hndL, hnd1, mvL, lnL, mvE, lnE]
  obtain ⟨s, p, d, b, ns, e⟩ := x; dsimp only [xg, xh] at hx ⊢
  have hx : rOk s ⟨p, d, b, ns⟩ := hx
  (repeat' first | (with_reducible first | rfl | exact True.intro | apply inR_i64 | apply And.intro | ((first | apply bcase_dec | apply bcase_bne | apply bcase_beq | apply bcase_not) <;> intro _)) | (apply bcase_intro <;> intro _) | apply sl_eq | refine ex_flip () ?_ ?_ | ((first | apply ex_flip10 | apply ex_flip9 | apply ex_flip8 | apply ex_flip7 | apply ex_flip6 | apply ex_flip5 | apply ex_flip4 | apply ex_flip3 | apply ex_flip2) <;> try dsimp only) | apply ex_flip | (refine Prod.forall.2 ?_; intro _; try dsimp only) | (intro _; try dsimp only))
  all_goals first
    | rfl
    | exact hx
    | (simp [isG, *]; done)
    | skip)
def s_rNmN  : Sig := { X := ST × Int × Int × Bool × List Nd × Int, args := fun x => [rdG x.1 (xh x), .int .i64 x.2.2.2.2.2], pre := fun x => rOk x.1 (xh x) ∧ 0 ≤ x.2.2.2.2.2 ∧ x.2.2.2.2.2 ≤ 2 ^ 20, Y := Unit, post := fun x y => True, res := fun x y => .bool (nmG x.1.sg (xh x) x.2.2.2.2.2), outs := fun x y => [rdG x.1 (xh x), .top], keep := true }
theorem rNmN_ok  : Contract G Tryz.prog 167 s_rNmN :=
  vcFun_okP [(141, 0, s_rPeek), (160, 0, s_iKw)] [] false (fun x => []) Tryz.func167 rfl (by decide) ⟨rPeek_ok, iKw_ok, trivial⟩ (fun (x : ST × Int × Int × Bool × List Nd × Int) => True ∧ cA s_rPeek [rdG x.1 (xh x), .int .i64 x.2.2.2.2.2] fun x_1 y => bcase ((pkG x_1.1.sg (xh x_1) x_1.2.2.2.2.2).kind == (1 : Int)) (cA s_iKw [.str (pkG x_1.1.sg (xh x_1) x_1.2.2.2.2.2).text] fun x_2 y => rA s_rNmN x [.bool !kw x_2, rdG x_1.1 (xh x_1), .top]) (rA s_rNmN x [.bool false, rdG x_1.1 (xh x_1), .top])) (fun x => by kernel_rfl) fun (x : ST × Int × Int × Bool × List Nd × Int) (hx : rOk x.1 (xh x) ∧ 0 ≤ x.2.2.2.2.2 ∧ x.2.2.2.2.2 ≤ 2 ^ 20) => (by
  dsimp only [cA, mbs, ndA_e, onds, rA, rdG, s_iKw, s_rNmN, s_rPeek, sgA_e, sgs, hndL, hnd1, mvL, lnL, mvE, lnE]
  obtain ⟨s, p, d, b, ns, e⟩ := x; dsimp only [xg, xh] at hx ⊢
  obtain ⟨h1, h2, h3⟩ := hx
  (repeat' first | (with_reducible first | rfl | exact True.intro | apply inR_i64 | apply And.intro | ((first | apply bcase_dec | apply bcase_bne | apply bcase_beq | apply bcase_not) <;> intro _)) | (apply bcase_intro <;> intro _) | apply sl_eq | refine ex_flip () ?_ ?_ | ((first | apply ex_flip10 | apply ex_flip9 | apply ex_flip8 | apply ex_flip7 | apply ex_flip6 | apply ex_flip5 | apply ex_flip4 | apply ex_flip3 | apply ex_flip2) <;> try dsimp only) | apply ex_flip | (refine Prod.forall.2 ?_; intro _; try dsimp only) | (intro _; try dsimp only))
  all_goals first
    | rfl
    | exact h1
    | omega
    | (simp [nmG, *]; done)
    | skip)
def s_rSkip  : Sig := { X := ST × Int × Int × Bool × List Nd × List UInt8, args := fun x => [rdG x.1 (xh x), .str x.2.2.2.2.2], pre := fun x => rOk x.1 (xh x), Y := Unit, post := fun x y => True, res := fun x y => .bool (isG x.1.sg (xh x) 4 x.2.2.2.2.2), outs := fun x y => [rdG x.1 (gSkip x.1.sg (xh x) x.2.2.2.2.2), .top], keep := true }
theorem rSkip_ok  : Contract G Tryz.prog 163 s_rSkip :=
  vcFun_okP [(166, 0, s_rIs)] [] false (fun x => []) Tryz.func163 rfl (by decide) ⟨rIs_ok, trivial⟩ (fun (x : ST × Int × Int × Bool × List Nd × List UInt8) => True ∧ cA s_rIs [rdG x.1 (xh x), .str x.2.2.2.2.2] fun x_1 y => bcase (!isG x_1.1.sg (xh x_1) (4 : Int) x_1.2.2.2.2.2) (rA s_rSkip x [.bool false, rdG x_1.1 (xh x_1), .top]) (inR IntKind.i64 ((xh x_1).pos + (1 : Int)) ∧ rA s_rSkip x [.bool true, .box 0 [sgs x_1.1.sg, .int .i64 x_1.1.z, .int .i64 ((xh x_1).pos + (1 : Int)), .int .i64 (xh x_1).deep, .bool (xh x_1).bad, onds (xh x_1).nodes, mbs x_1.1.ms], .top])) (fun x => by kernel_rfl) fun (x : ST × Int × Int × Bool × List Nd × List UInt8) (hx : rOk x.1 (xh x)) => (by
  dsimp only [cA, mbs, ndA_e, onds, rA, rdG, s_rIs, s_rSkip, sgA_e, sgs, hndL, hnd1, mvL, lnL, mvE, lnE]
  obtain ⟨s, p, d, b, ns, e⟩ := x; dsimp only [xg, xh] at hx ⊢
  have hx : rOk s ⟨p, d, b, ns⟩ := hx; have hs := rOk_n hx; dsimp only at hs
  (repeat' first | (with_reducible first | rfl | exact True.intro | apply inR_i64 | apply And.intro | ((first | apply bcase_dec | apply bcase_bne | apply bcase_beq | apply bcase_not) <;> intro _)) | (apply bcase_intro <;> intro _) | apply sl_eq | refine ex_flip () ?_ ?_ | ((first | apply ex_flip10 | apply ex_flip9 | apply ex_flip8 | apply ex_flip7 | apply ex_flip6 | apply ex_flip5 | apply ex_flip4 | apply ex_flip3 | apply ex_flip2) <;> try dsimp only) | apply ex_flip | (refine Prod.forall.2 ?_; intro _; try dsimp only) | (intro _; try dsimp only))
  all_goals first
    | rfl
    | exact hx
    | (simp [gSkip, gAdv, *]; done)
    | ((try simp only [i64max]); omega)
    | skip)
def s_rTake  : Sig := { X := ST × Int × Int × Bool × List Nd × List UInt8, args := fun x => [rdG x.1 (xh x), .str x.2.2.2.2.2], pre := fun x => rOk x.1 (xh x), Y := Unit, post := fun x y => True, res := fun x y => .tup [], outs := fun x y => [rdG x.1 (gTake x.1.sg (xh x) x.2.2.2.2.2), .top], keep := true }
theorem rTake_ok  : Contract G Tryz.prog 137 s_rTake :=
  vcFun_okP [(163, 0, s_rSkip)] [] false (fun x => []) Tryz.func137 rfl (by decide) ⟨rSkip_ok, trivial⟩ (fun (x : ST × Int × Int × Bool × List Nd × List UInt8) => True ∧ cA s_rSkip [rdG x.1 (xh x), .str x.2.2.2.2.2] fun x_1 y => bcase (!isG x_1.1.sg (xh x_1) (4 : Int) x_1.2.2.2.2.2) (rA s_rTake x [.tup [], .box 0 [sgs x_1.1.sg, .int .i64 x_1.1.z, .int .i64 (gSkip x_1.1.sg (xh x_1) x_1.2.2.2.2.2).pos, .int .i64 (gSkip x_1.1.sg (xh x_1) x_1.2.2.2.2.2).deep, .bool true, onds (gSkip x_1.1.sg (xh x_1) x_1.2.2.2.2.2).nodes, mbs x_1.1.ms], .top]) (rA s_rTake x [.tup [], rdG x_1.1 (gSkip x_1.1.sg (xh x_1) x_1.2.2.2.2.2), .top])) (fun x => by kernel_rfl) fun (x : ST × Int × Int × Bool × List Nd × List UInt8) (hx : rOk x.1 (xh x)) => (by
  dsimp only [cA, mbs, ndA_e, onds, rA, rdG, s_rSkip, s_rTake, sgA_e, sgs, hndL, hnd1, mvL, lnL, mvE, lnE]
  obtain ⟨s, p, d, b, ns, e⟩ := x; dsimp only [xg, xh] at hx ⊢
  have hx : rOk s ⟨p, d, b, ns⟩ := hx; have hs := rOk_n hx; dsimp only at hs
  (repeat' first | (with_reducible first | rfl | exact True.intro | apply inR_i64 | apply And.intro | ((first | apply bcase_dec | apply bcase_bne | apply bcase_beq | apply bcase_not) <;> intro _)) | (apply bcase_intro <;> intro _) | apply sl_eq | refine ex_flip () ?_ ?_ | ((first | apply ex_flip10 | apply ex_flip9 | apply ex_flip8 | apply ex_flip7 | apply ex_flip6 | apply ex_flip5 | apply ex_flip4 | apply ex_flip3 | apply ex_flip2) <;> try dsimp only) | apply ex_flip | (refine Prod.forall.2 ?_; intro _; try dsimp only) | (intro _; try dsimp only))
  all_goals first
    | rfl
    | exact hx
    | (simp [gTake, gSkip, gAdv, gBad, *]; done)
    | ((try simp only [i64max]); omega)
    | skip)
theorem gName_at {sg : List Sg} {g : Gs} {e : Sg} (he : sg[(g.pos + 1 - 1).toNat]? = some e) (h : nmG sg g 0 = true) : e.text = gNameT sg g := by
  obtain ⟨hb, hl⟩ := nmG_lt h
  rw [gNameT, if_pos h, pkG_yes (by rw [show g.pos + 0 = g.pos + 1 - 1 by omega]; exact he) hb (by omega)]
def s_rName  : Sig := { X := ST × Int × Int × Bool × List Nd, args := fun x => [rdG x.1 (xg x)], pre := fun x => rOk x.1 (xg x), Y := Unit, post := fun x y => True, res := fun x y => .str (gNameT x.1.sg (xg x)), outs := fun x y => [rdG x.1 (gName x.1.sg (xg x))], keep := true }
theorem rName_ok  : Contract G Tryz.prog 136 s_rName :=
  vcFun_okP [(167, 0, s_rNmN)] [] false (fun x => []) Tryz.func136 rfl (by decide) ⟨rNmN_ok, trivial⟩ (fun (x : ST × Int × Int × Bool × List Nd) => True ∧ cA s_rNmN [rdG x.1 (xg x), .int .i64 (0 : Int)] fun x_1 y => bcase (!nmG x_1.1.sg (xh x_1) x_1.2.2.2.2.2) (rA s_rName x [.str #[].toList, .box 0 [sgs x_1.1.sg, .int .i64 x_1.1.z, .int .i64 (xh x_1).pos, .int .i64 (xh x_1).deep, .bool true, onds (xh x_1).nodes, mbs x_1.1.ms]]) (inR IntKind.i64 ((xh x_1).pos + (1 : Int)) ∧ true = true ∧ true = true ∧ inR IntKind.i64 ((xh x_1).pos + (1 : Int) - (1 : Int)) ∧ ((0 : Int) ≤ (xh x_1).pos + (1 : Int) - (1 : Int) ∧ (xh x_1).pos + (1 : Int) - (1 : Int) < (↑(List.length x_1.1.sg) : Int)) ∧ ∀ (e : Sg), x_1.1.sg[Int.toNat ((xh x_1).pos + (1 : Int) - (1 : Int))]? = some e → rA s_rName x [.str e.text, .box 0 [sgs x_1.1.sg, .int .i64 x_1.1.z, .int .i64 ((xh x_1).pos + (1 : Int)), .int .i64 (xh x_1).deep, .bool (xh x_1).bad, onds (xh x_1).nodes, mbs x_1.1.ms]])) (fun x => by kernel_rfl) fun (x : ST × Int × Int × Bool × List Nd) (hx : rOk x.1 (xg x)) => (by
  dsimp only [cA, mbs, ndA_e, onds, rA, rdG, s_rName, s_rNmN, sgA_e, sgs, hndL, hnd1, mvL, lnL, mvE, lnE]
  obtain ⟨s, p, d, b, ns⟩ := x; dsimp only [xg, xh] at hx ⊢
  have hx : rOk s ⟨p, d, b, ns⟩ := hx; have hs := rOk_n hx; dsimp only at hs
  (repeat' first | (with_reducible first | rfl | exact True.intro | apply inR_i64 | apply And.intro | ((first | apply bcase_dec | apply bcase_bne | apply bcase_beq | apply bcase_not) <;> intro _)) | (apply bcase_intro <;> intro _) | apply sl_eq | refine ex_flip () ?_ ?_ | ((first | apply ex_flip10 | apply ex_flip9 | apply ex_flip8 | apply ex_flip7 | apply ex_flip6 | apply ex_flip5 | apply ex_flip4 | apply ex_flip3 | apply ex_flip2) <;> try dsimp only) | apply ex_flip | (refine Prod.forall.2 ?_; intro _; try dsimp only) | (intro _; try dsimp only))
  all_goals first
    | rfl
    | exact hx
    | (simp [gName, gNameT, gAdv, gBad, *]; done)
    | exact gName_at (by assumption) (by assumption)
    | (have hl := nmG_lt (show nmG _ _ 0 = true by assumption); dsimp only at hl; (try simp only [i64max]); omega)
    | ((try simp only [i64max]); omega)
    | (rename _ = some _ => he; exact gName_at he (by assumption)))
theorem gF_b {g : Gs} (h : g.bad = true) : gFull g = true := by simp [gFull, h]
theorem gF_n {g : Gs} (h : (g.nodes.length : Int) = 300) : gFull g = true := by simp [gFull, show g.nodes.length = 300 by omega]
theorem gF_f {g : Gs} (h : g.bad = false) (h2 : (g.nodes.length : Int) ≠ 300) : gFull g = false := by simp [gFull, h, show g.nodes.length ≠ 300 by omega]
theorem gF_f2 {g : Gs} (h : g.bad = false) (h2 : g.nodes.length ≠ 300) : gFull g = false := by simp [gFull, h, h2]
def s_rAdd  : Sig := { X := ST × Int × Int × Bool × List Nd × Int × List UInt8 × List Int × Bool, args := fun x => [rdG x.1 (xh x), .agg (ndA true ⟨x.2.2.2.2.2.1, x.2.2.2.2.2.2.1, x.2.2.2.2.2.2.2.1, x.2.2.2.2.2.2.2.2⟩)], pre := fun x => rOk x.1 (xh x), Y := Unit, post := fun x y => True, res := fun x y => .int .i64 (gAddK (xh x)), outs := fun x y => [rdG x.1 (gAdd (xh x) ⟨x.2.2.2.2.2.1, x.2.2.2.2.2.2.1, x.2.2.2.2.2.2.2.1, x.2.2.2.2.2.2.2.2⟩), .top], keep := true }
def i_rAdd  (x : ST × Int × Int × Bool × List Nd × Int × List UInt8 × List Int × Bool) : LS := { ι := Unit, inv := fun _ => (xh x).bad = false ∧ (xh x).nodes.length ≠ 300, regs := fun _ => [(0, rdG x.1 (gAdd (xh x) ⟨x.2.2.2.2.2.1, x.2.2.2.2.2.2.1, x.2.2.2.2.2.2.2.1, x.2.2.2.2.2.2.2.2⟩))], als := [], meas := fun _ => 0 }
theorem rAdd_ok  : Contract G Tryz.prog 104 s_rAdd :=
  vcFun_okP [] [(32, ⟨Nd,ndA true⟩)] false (fun x => [(100004, i_rAdd  x)]) Tryz.func104 rfl (by decide) trivial (fun (x : ST × Int × Int × Bool × List Nd × Int × List UInt8 × List Int × Bool) => True ∧ bcase (xh x).bad (rA s_rAdd x [.int .i64 (0 : Int), .box 0 [sgs x.1.sg, .int .i64 x.1.z, .int .i64 (xh x).pos, .int .i64 (xh x).deep, .bool true, onds (xh x).nodes, mbs x.1.ms], .top]) (bcase ((↑(List.length (xh x).nodes) : Int) == (300 : Int)) (rA s_rAdd x [.int .i64 (0 : Int), .box 0 [sgs x.1.sg, .int .i64 x.1.z, .int .i64 (xh x).pos, .int .i64 (xh x).deep, .bool true, onds (xh x).nodes, mbs x.1.ms], .top]) (true = true ∧ ((∃ (x_1 : Nd), x.2.2.2.2.2.1 = x_1.kind ∧ x.2.2.2.2.2.2.1 = x_1.text ∧ oints x.2.2.2.2.2.2.2.1 = oints x_1.kids ∧ x.2.2.2.2.2.2.2.2 = x_1.blank ∧ ∃ (zs : List Nd), onds [x_1] = onds zs ∧ leafy (ndA true) ∧ room (List.length (xh x).nodes + List.length zs) (56 : Nat) ∧ true = true ∧ ∃ (i : Unit), ((xh x).bad = false ∧ List.length (xh x).nodes ≠ (300 : Nat)) ∧ (sgs x.1.sg = sgs x.1.sg ∧ x.1.z = x.1.z ∧ (xh x).pos = (gAdd (xh x) { kind := x.2.2.2.2.2.1, text := x.2.2.2.2.2.2.1, kids := x.2.2.2.2.2.2.2.1, blank := x.2.2.2.2.2.2.2.2 }).pos ∧ (xh x).deep = (gAdd (xh x) { kind := x.2.2.2.2.2.1, text := x.2.2.2.2.2.2.1, kids := x.2.2.2.2.2.2.2.1, blank := x.2.2.2.2.2.2.2.2 }).deep ∧ (xh x).bad = (gAdd (xh x) { kind := x.2.2.2.2.2.1, text := x.2.2.2.2.2.2.1, kids := x.2.2.2.2.2.2.2.1, blank := x.2.2.2.2.2.2.2.2 }).bad ∧ onds ((xh x).nodes ++ zs) = onds (gAdd (xh x) { kind := x.2.2.2.2.2.1, text := x.2.2.2.2.2.2.1, kids := x.2.2.2.2.2.2.2.1, blank := x.2.2.2.2.2.2.2.2 }).nodes ∧ mbs x.1.ms = mbs x.1.ms ∧ True) ∧ True) ∧ (∃ (x_1 : Nd), x.2.2.2.2.2.1 = x_1.kind ∧ x.2.2.2.2.2.2.1 = x_1.text ∧ oints x.2.2.2.2.2.2.2.1 = oints x_1.kids ∧ x.2.2.2.2.2.2.2.2 = x_1.blank ∧ ∃ (zs : List Nd), onds [x_1] = onds zs ∧ leafy (ndA true) ∧ room (List.length (xh x).nodes + List.length zs) (56 : Nat) ∧ true = true ∧ ∃ (i : Unit), ((xh x).bad = false ∧ List.length (xh x).nodes ≠ (300 : Nat)) ∧ (sgs x.1.sg = sgs x.1.sg ∧ x.1.z = x.1.z ∧ (xh x).pos = (gAdd (xh x) { kind := x.2.2.2.2.2.1, text := x.2.2.2.2.2.2.1, kids := x.2.2.2.2.2.2.2.1, blank := x.2.2.2.2.2.2.2.2 }).pos ∧ (xh x).deep = (gAdd (xh x) { kind := x.2.2.2.2.2.1, text := x.2.2.2.2.2.2.1, kids := x.2.2.2.2.2.2.2.1, blank := x.2.2.2.2.2.2.2.2 }).deep ∧ (xh x).bad = (gAdd (xh x) { kind := x.2.2.2.2.2.1, text := x.2.2.2.2.2.2.1, kids := x.2.2.2.2.2.2.2.1, blank := x.2.2.2.2.2.2.2.2 }).bad ∧ onds ((xh x).nodes ++ zs) = onds (gAdd (xh x) { kind := x.2.2.2.2.2.1, text := x.2.2.2.2.2.2.1, kids := x.2.2.2.2.2.2.2.1, blank := x.2.2.2.2.2.2.2.2 }).nodes ∧ mbs x.1.ms = mbs x.1.ms ∧ True) ∧ True) ∧ ∃ (x_1 : Nd), x.2.2.2.2.2.1 = x_1.kind ∧ x.2.2.2.2.2.2.1 = x_1.text ∧ oints x.2.2.2.2.2.2.2.1 = oints x_1.kids ∧ x.2.2.2.2.2.2.2.2 = x_1.blank ∧ ∃ (zs : List Nd), onds [x_1] = onds zs ∧ leafy (ndA true) ∧ room (List.length (xh x).nodes + List.length zs) (56 : Nat) ∧ true = true ∧ ∃ (i : Unit), ((xh x).bad = false ∧ List.length (xh x).nodes ≠ (300 : Nat)) ∧ (sgs x.1.sg = sgs x.1.sg ∧ x.1.z = x.1.z ∧ (xh x).pos = (gAdd (xh x) { kind := x.2.2.2.2.2.1, text := x.2.2.2.2.2.2.1, kids := x.2.2.2.2.2.2.2.1, blank := x.2.2.2.2.2.2.2.2 }).pos ∧ (xh x).deep = (gAdd (xh x) { kind := x.2.2.2.2.2.1, text := x.2.2.2.2.2.2.1, kids := x.2.2.2.2.2.2.2.1, blank := x.2.2.2.2.2.2.2.2 }).deep ∧ (xh x).bad = (gAdd (xh x) { kind := x.2.2.2.2.2.1, text := x.2.2.2.2.2.2.1, kids := x.2.2.2.2.2.2.2.1, blank := x.2.2.2.2.2.2.2.2 }).bad ∧ onds ((xh x).nodes ++ zs) = onds (gAdd (xh x) { kind := x.2.2.2.2.2.1, text := x.2.2.2.2.2.2.1, kids := x.2.2.2.2.2.2.2.1, blank := x.2.2.2.2.2.2.2.2 }).nodes ∧ mbs x.1.ms = mbs x.1.ms ∧ True) ∧ True) ∧ ∀ (i : Unit), (xh x).bad = false ∧ List.length (xh x).nodes ≠ (300 : Nat) → inR IntKind.i64 ((↑(List.length (gAdd (xh x) { kind := x.2.2.2.2.2.1, text := x.2.2.2.2.2.2.1, kids := x.2.2.2.2.2.2.2.1, blank := x.2.2.2.2.2.2.2.2 }).nodes) : Int) - (1 : Int)) ∧ rA s_rAdd x [.int .i64 ((↑(List.length (gAdd (xh x) { kind := x.2.2.2.2.2.1, text := x.2.2.2.2.2.2.1, kids := x.2.2.2.2.2.2.2.1, blank := x.2.2.2.2.2.2.2.2 }).nodes) : Int) - (1 : Int)), rdG x.1 (gAdd (xh x) { kind := x.2.2.2.2.2.1, text := x.2.2.2.2.2.2.1, kids := x.2.2.2.2.2.2.2.1, blank := x.2.2.2.2.2.2.2.2 }), .top]))) (fun x => by kernel_rfl) fun (x : ST × Int × Int × Bool × List Nd × Int × List UInt8 × List Int × Bool) (hx : rOk x.1 (xh x)) => (by
  dsimp only [mbs, ndA_e, oints, onds, rA, rdG, s_rAdd, sgA_e, sgs, hndL, hnd1]
  obtain ⟨s, p, d, b, ns, k, t, ks, bl⟩ := x; dsimp only [xg, xh] at hx ⊢
  have hx : rOk s ⟨p, d, b, ns⟩ := hx; have hs := rOk_n hx; dsimp only at hs
  (repeat' first | refine ex_ndr ?_ | (with_reducible first | rfl | exact True.intro | apply inR_i64 | apply And.intro | ((first | apply bcase_dec | apply bcase_bne | apply bcase_beq | apply bcase_not) <;> intro _)) | (apply bcase_intro <;> intro _) | apply sl_eq | refine ex_flip () ?_ ?_ | ((first | apply ex_flip10 | apply ex_flip9 | apply ex_flip8 | apply ex_flip7 | apply ex_flip6 | apply ex_flip5 | apply ex_flip4 | apply ex_flip3 | apply ex_flip2) <;> try dsimp only) | apply ex_flip | (refine Prod.forall.2 ?_; intro _; try dsimp only) | (intro _; try dsimp only))
  all_goals try (first | (have hF := gF_b (g := ⟨p, d, b, ns⟩) (show b = true by assumption)) | (have hF := gF_n (g := ⟨p, d, b, ns⟩) (show (ns.length : Int) = 300 by assumption)) | (have hF := gF_f (g := ⟨p, d, b, ns⟩) (show b = false by assumption) (by assumption)) | (have hF := gF_f2 (g := ⟨p, d, b, ns⟩) (show b = false by assumption) (by assumption)))
  all_goals first
    | rfl
    | (simp [gAdd, gAddK, gBad, hF]; done)
    | ((try simp only [i64max, room, List.length_append, List.length_cons, List.length_nil]); omega)
    | (simp only [gAdd, hF, Bool.false_eq_true, if_false, i64max, List.length_append, List.length_cons, List.length_nil]; omega)
    | skip)
def s_rPass  : Sig := { X := ST × Int × Int × Bool × List Nd, args := fun x => [rdG x.1 (xg x)], pre := fun x => rOk x.1 (xg x), Y := Unit, post := fun x y => True, res := fun x y => .tup [], outs := fun x y => [rdG x.1 (gPass (xg x))], keep := true }
theorem rPass_ok  : Contract G Tryz.prog 162 s_rPass :=
  vcFun_okP [] [] false (fun x => []) Tryz.func162 rfl (by decide) trivial (fun (x : ST × Int × Int × Bool × List Nd) => True ∧ bcase (!(xg x).bad) (inR IntKind.i64 ((xg x).pos + (1 : Int)) ∧ rA s_rPass x [.tup [], .box 0 [sgs x.1.sg, .int .i64 x.1.z, .int .i64 ((xg x).pos + (1 : Int)), .int .i64 (xg x).deep, .bool (xg x).bad, onds (xg x).nodes, mbs x.1.ms]]) (rA s_rPass x [.tup [], rdG x.1 (xg x)])) (fun x => by kernel_rfl) fun (x : ST × Int × Int × Bool × List Nd) (hx : rOk x.1 (xg x)) => (by
  dsimp only [mbs, ndA_e, onds, rA, rdG, s_rPass, sgA_e, sgs, hndL, hnd1]
  obtain ⟨s, p, d, b, ns⟩ := x; dsimp only [xg, xh] at hx ⊢
  have hx : rOk s ⟨p, d, b, ns⟩ := hx; have hs := rOk_n hx; dsimp only at hs
  (repeat' first | (with_reducible first | rfl | exact True.intro | apply inR_i64 | apply And.intro | ((first | apply bcase_dec | apply bcase_bne | apply bcase_beq | apply bcase_not) <;> intro _)) | (apply bcase_intro <;> intro _) | apply sl_eq | refine ex_flip () ?_ ?_ | ((first | apply ex_flip10 | apply ex_flip9 | apply ex_flip8 | apply ex_flip7 | apply ex_flip6 | apply ex_flip5 | apply ex_flip4 | apply ex_flip3 | apply ex_flip2) <;> try dsimp only) | apply ex_flip | (refine Prod.forall.2 ?_; intro _; try dsimp only) | (intro _; try dsimp only))
  all_goals first
    | rfl
    | (simp [gPass, gAdv, *]; done)
    | ((try simp only [i64max]); omega)
    | skip)
def s_rLeaf  : Sig := { X := ST × Int × Int × Bool × List Nd × Int, args := fun x => [rdG x.1 (xh x), .int .i64 x.2.2.2.2.2], pre := fun x => rOk x.1 (xh x) ∧ ((xh x).bad = false → (xh x).pos < x.1.sg.length), Y := Unit, post := fun x y => True, res := fun x y => .int .i64 (gAddK (xh x)), outs := fun x y => [rdG x.1 (gLeaf x.1.sg (xh x) x.2.2.2.2.2 false), .top], keep := true }
theorem rLeaf_ok  : Contract G Tryz.prog 168 s_rLeaf :=
  vcFun_okP [(103, 0, s_rNext), (104, 0, s_rAdd), (162, 0, s_rPass)] [(45, ⟨Int,intA⟩)] false (fun x => []) Tryz.func168 rfl (by decide) ⟨rNext_ok, rAdd_ok, rPass_ok, trivial⟩ (fun (x : ST × Int × Int × Bool × List Nd × Int) => True ∧ cA s_rNext [rdG x.1 (xh x)] fun x_1 y => cA s_rAdd [rdG x_1.1 (xg x_1), .agg [.int .i64 x.2.2.2.2.2, .str (pkG x_1.1.sg (xg x_1) (0 : Int)).text, .nil, .bool false]] fun x_2 y => cA s_rPass [rdG x_2.1 (gAdd (xh x_2) { kind := x_2.2.2.2.2.2.1, text := x_2.2.2.2.2.2.2.1, kids := x_2.2.2.2.2.2.2.2.1, blank := x_2.2.2.2.2.2.2.2.2 })] fun x_3 y => rA s_rLeaf x [.int .i64 (gAddK (xh x_2)), rdG x_3.1 (gPass (xg x_3)), .top]) (fun x => by kernel_rfl) fun (x : ST × Int × Int × Bool × List Nd × Int) (hx : rOk x.1 (xh x) ∧ ((xh x).bad = false → (xh x).pos < x.1.sg.length)) => (by
  dsimp only [cA, mbs, ndA_e, onds, rA, rdG, s_rAdd, s_rLeaf, s_rNext, s_rPass, sgA_e, sgs, hndL, hnd1, mvL, lnL, mvE, lnE]
  obtain ⟨s, p, d, b, ns, e⟩ := x; dsimp only [xg, xh] at hx ⊢
  obtain ⟨h1, h2⟩ := hx
  (repeat' first | (with_reducible first | rfl | exact True.intro | apply inR_i64 | apply And.intro | ((first | apply bcase_dec | apply bcase_bne | apply bcase_beq | apply bcase_not) <;> intro _)) | (apply bcase_intro <;> intro _) | apply sl_eq | refine ex_flip () ?_ ?_ | ((first | apply ex_flip10 | apply ex_flip9 | apply ex_flip8 | apply ex_flip7 | apply ex_flip6 | apply ex_flip5 | apply ex_flip4 | apply ex_flip3 | apply ex_flip2) <;> try dsimp only) | apply ex_flip | (refine Prod.forall.2 ?_; intro _; try dsimp only) | (intro _; try dsimp only))
  all_goals first
    | rfl
    | exact h1
    | exact ⟨h1.1, add_ok h1.2 ⟨pkG_text h1.1, by simp⟩⟩
    | (simp [gLeaf, *]; done)
    | skip)
def s_rClose  : Sig := { X := ST × Int × Int × Bool × List Nd × List UInt8 × Int × List UInt8 × List Int × Bool, args := fun x => [rdG x.1 (xh x), .str x.2.2.2.2.2.1, .agg (ndA true ⟨x.2.2.2.2.2.2.1, x.2.2.2.2.2.2.2.1, x.2.2.2.2.2.2.2.2.1, x.2.2.2.2.2.2.2.2.2⟩)], pre := fun x => rOk x.1 (xh x) ∧ nodB ⟨x.2.2.2.2.2.2.1, x.2.2.2.2.2.2.2.1, x.2.2.2.2.2.2.2.2.1, x.2.2.2.2.2.2.2.2.2⟩, Y := Unit, post := fun x y => True, res := fun x y => .int .i64 (gCloseK x.1.sg (xh x) x.2.2.2.2.2.1), outs := fun x y => [rdG x.1 (gClose x.1.sg (xh x) x.2.2.2.2.2.1 ⟨x.2.2.2.2.2.2.1, x.2.2.2.2.2.2.2.1, x.2.2.2.2.2.2.2.2.1, x.2.2.2.2.2.2.2.2.2⟩), .top, .top], keep := true }
theorem rClose_ok  : Contract G Tryz.prog 165 s_rClose :=
  vcFun_okP [(166, 0, s_rIs), (104, 0, s_rAdd), (162, 0, s_rPass)] [] false (fun x => []) Tryz.func165 rfl (by decide) ⟨rIs_ok, rAdd_ok, rPass_ok, trivial⟩ (fun (x : ST × Int × Int × Bool × List Nd × List UInt8 × Int × List UInt8 × List Int × Bool) => True ∧ cA s_rIs [rdG x.1 (xh x), .str x.2.2.2.2.2.1] fun x_1 y => bcase (!isG x_1.1.sg (xh x_1) (4 : Int) x_1.2.2.2.2.2) (rA s_rClose x [.int .i64 (0 : Int), .box 0 [sgs x_1.1.sg, .int .i64 x_1.1.z, .int .i64 (xh x_1).pos, .int .i64 (xh x_1).deep, .bool true, onds (xh x_1).nodes, mbs x_1.1.ms], .top, .top]) (cA s_rAdd [rdG x_1.1 (xh x_1), .agg [.int .i64 x.2.2.2.2.2.2.1, .str x.2.2.2.2.2.2.2.1, oints x.2.2.2.2.2.2.2.2.1, .bool x.2.2.2.2.2.2.2.2.2]] fun x_2 y => cA s_rPass [rdG x_2.1 (gAdd (xh x_2) { kind := x_2.2.2.2.2.2.1, text := x_2.2.2.2.2.2.2.1, kids := x_2.2.2.2.2.2.2.2.1, blank := x_2.2.2.2.2.2.2.2.2 })] fun x_3 y => rA s_rClose x [.int .i64 (gAddK (xh x_2)), rdG x_3.1 (gPass (xg x_3)), .top, .top])) (fun x => by kernel_rfl) fun (x : ST × Int × Int × Bool × List Nd × List UInt8 × Int × List UInt8 × List Int × Bool) (hx : rOk x.1 (xh x) ∧ nodB ⟨x.2.2.2.2.2.2.1, x.2.2.2.2.2.2.2.1, x.2.2.2.2.2.2.2.2.1, x.2.2.2.2.2.2.2.2.2⟩) => (by
  dsimp only [cA, mbs, ndA_e, oints, onds, rA, rdG, s_rAdd, s_rClose, s_rIs, s_rPass, sgA_e, sgs, hndL, hnd1, mvL, lnL, mvE, lnE]
  obtain ⟨s, p, d, b, ns, m, k, t, ks, bl⟩ := x; dsimp only [xg, xh] at hx ⊢
  obtain ⟨h1, h2⟩ := hx
  (repeat' first | (with_reducible first | rfl | exact True.intro | apply inR_i64 | apply And.intro | ((first | apply bcase_dec | apply bcase_bne | apply bcase_beq | apply bcase_not) <;> intro _)) | (apply bcase_intro <;> intro _) | apply sl_eq | refine ex_flip () ?_ ?_ | ((first | apply ex_flip10 | apply ex_flip9 | apply ex_flip8 | apply ex_flip7 | apply ex_flip6 | apply ex_flip5 | apply ex_flip4 | apply ex_flip3 | apply ex_flip2) <;> try dsimp only) | apply ex_flip | (refine Prod.forall.2 ?_; intro _; try dsimp only) | (intro _; try dsimp only))
  all_goals first
    | rfl
    | exact h1
    | exact ⟨h1.1, add_ok h1.2 h2⟩
    | (simp [gClose, gCloseK, gBad, *]; done)
    | skip)
def s_rEnter  : Sig := { X := ST × Int × Int × Bool × List Nd, args := fun x => [rdG x.1 (xg x)], pre := fun x => rOk x.1 (xg x) ∧ (xg x).deep ≤ 20, Y := Unit, post := fun x y => True, res := fun x y => .tup [], outs := fun x y => [rdG x.1 (gDp (if (xg x).deep = 20 then gBad (xg x) else (xg x)) 1)], keep := true }
theorem rEnter_ok  : Contract G Tryz.prog 169 s_rEnter :=
  vcFun_okP [] [] false (fun x => []) Tryz.func169 rfl (by decide) trivial (fun (x : ST × Int × Int × Bool × List Nd) => True ∧ bcase ((xg x).deep == (20 : Int)) (inR IntKind.i64 ((xg x).deep + (1 : Int)) ∧ rA s_rEnter x [.tup [], .box 0 [sgs x.1.sg, .int .i64 x.1.z, .int .i64 (xg x).pos, .int .i64 ((xg x).deep + (1 : Int)), .bool true, onds (xg x).nodes, mbs x.1.ms]]) (inR IntKind.i64 ((xg x).deep + (1 : Int)) ∧ rA s_rEnter x [.tup [], .box 0 [sgs x.1.sg, .int .i64 x.1.z, .int .i64 (xg x).pos, .int .i64 ((xg x).deep + (1 : Int)), .bool (xg x).bad, onds (xg x).nodes, mbs x.1.ms]])) (fun x => by kernel_rfl) fun (x : ST × Int × Int × Bool × List Nd) (hx : rOk x.1 (xg x) ∧ (xg x).deep ≤ 20) => (by
  dsimp only [mbs, ndA_e, onds, rA, rdG, s_rEnter, sgA_e, sgs, hndL, hnd1]
  obtain ⟨s, p, d, b, ns⟩ := x; dsimp only [xg, xh] at hx ⊢
  obtain ⟨h1, h2⟩ := hx; have hs := rOk_n h1; dsimp only at hs
  (repeat' first | (with_reducible first | rfl | exact True.intro | apply inR_i64 | apply And.intro | ((first | apply bcase_dec | apply bcase_bne | apply bcase_beq | apply bcase_not) <;> intro _)) | (apply bcase_intro <;> intro _) | apply sl_eq | refine ex_flip () ?_ ?_ | ((first | apply ex_flip10 | apply ex_flip9 | apply ex_flip8 | apply ex_flip7 | apply ex_flip6 | apply ex_flip5 | apply ex_flip4 | apply ex_flip3 | apply ex_flip2) <;> try dsimp only) | apply ex_flip | (refine Prod.forall.2 ?_; intro _; try dsimp only) | (intro _; try dsimp only))
  all_goals first
    | rfl
    | (simp [gDp, gBad, *]; done)
    | ((try simp only [i64max]); omega)
    | skip)
def s_rNameN  : Sig := { X := ST × Int × Int × Bool × List Nd, args := fun x => [rdG x.1 (xg x)], pre := fun x => rOk x.1 (xg x), Y := Unit, post := fun x y => True, res := fun x y => .int .i64 (gNameK x.1.sg (xg x)), outs := fun x y => [rdG x.1 (gNameN x.1.sg (xg x))], keep := true }
theorem rNameN_ok  : Contract G Tryz.prog 139 s_rNameN :=
  vcFun_okP [(167, 0, s_rNmN), (168, 0, s_rLeaf)] [] false (fun x => []) Tryz.func139 rfl (by decide) ⟨rNmN_ok, rLeaf_ok, trivial⟩ (fun (x : ST × Int × Int × Bool × List Nd) => True ∧ cA s_rNmN [rdG x.1 (xg x), .int .i64 (0 : Int)] fun x_1 y => bcase (!nmG x_1.1.sg (xh x_1) x_1.2.2.2.2.2) (rA s_rNameN x [.int .i64 (0 : Int), .box 0 [sgs x_1.1.sg, .int .i64 x_1.1.z, .int .i64 (xh x_1).pos, .int .i64 (xh x_1).deep, .bool true, onds (xh x_1).nodes, mbs x_1.1.ms]]) (cA s_rLeaf [rdG x_1.1 (xh x_1), .int .i64 (1 : Int)] fun x_2 y => rA s_rNameN x [.int .i64 (gAddK (xh x_2)), rdG x_2.1 (gLeaf x_2.1.sg (xh x_2) x_2.2.2.2.2.2 false)])) (fun x => by kernel_rfl) fun (x : ST × Int × Int × Bool × List Nd) (hx : rOk x.1 (xg x)) => (by
  dsimp only [cA, mbs, ndA_e, onds, rA, rdG, s_rLeaf, s_rNameN, s_rNmN, sgA_e, sgs, hndL, hnd1, mvL, lnL, mvE, lnE]
  obtain ⟨s, p, d, b, ns⟩ := x; dsimp only [xg, xh] at hx ⊢
  have hx : rOk s ⟨p, d, b, ns⟩ := hx; have hs := rOk_n hx; dsimp only at hs
  (repeat' first | (with_reducible first | rfl | exact True.intro | apply inR_i64 | apply And.intro | ((first | apply bcase_dec | apply bcase_bne | apply bcase_beq | apply bcase_not) <;> intro _)) | (apply bcase_intro <;> intro _) | apply sl_eq | refine ex_flip () ?_ ?_ | ((first | apply ex_flip10 | apply ex_flip9 | apply ex_flip8 | apply ex_flip7 | apply ex_flip6 | apply ex_flip5 | apply ex_flip4 | apply ex_flip3 | apply ex_flip2) <;> try dsimp only) | apply ex_flip | (refine Prod.forall.2 ?_; intro _; try dsimp only) | (intro _; try dsimp only))
  all_goals first
    | rfl
    | exact hx
    | omega
    | (have hl := nmG_lt (show nmG _ _ 0 = true by assumption); dsimp only at hl; omega)
    | (simp [gNameN, gNameK, gBad, *]; done)
    | skip)
end Go.My
end
section
set_option linter.unusedVariables false
set_option linter.unusedSimpArgs false
namespace Go.My
open Go.Eng
def restP {α : Type} (sg : List Sg) (x : Gs) (f : Ps → Option (α × Ps)) (y : Gs) (g : Ps → Option (α × Ps)) (d : Int) : Prop :=
  gsOk sg y ∧ y.deep = x.deep + d ∧ x.pos ≤ y.pos ∧ (pur y).bind g = (pur x).bind f
theorem rest_0 {α : Type} {sg : List Sg} {x : Gs} {f : Ps → Option (α × Ps)} (h : gsOk sg x) : restP sg x f x f 0 := ⟨h, by omega, Int.le_refl _, rfl⟩
theorem rest_to {α : Type} {sg : List Sg} {x y : Gs} {f g g' : Ps → Option (α × Ps)} {d : Int} (h : restP sg x f y g d) (e : ∀ s, pur y = some s → g s = g' s) : restP sg x f y g' d := by
  refine ⟨h.1, h.2.1, h.2.2.1, ?_⟩
  rw [← h.2.2.2]
  cases hs : pur y with
  | none => rfl
  | some s => exact (e s hs).symm
theorem rest_step {α : Type} {sg : List Sg} {x y z : Gs} {f g g' : Ps → Option (α × Ps)} {h : Ps → Option Ps} {d : Int} (h1 : restP sg x f y g d) (h2 : stepP sg y h z) (e : ∀ s, pur y = some s → g s = (h s).bind g') : restP sg x f z g' d := by
  obtain ⟨a1, a2, a3, a4⟩ := h1; obtain ⟨b1, b2, b3, b4⟩ := h2
  refine ⟨b1, by omega, by omega, ?_⟩
  rw [b4, ← a4]
  cases hs : pur y with
  | none => rfl
  | some s => simp only [Option.bind_some]; rw [e s hs]
theorem rest_res {α β : Type} {sg : List Sg} {x y : Gs} {z : β × Gs} {f g : Ps → Option (α × Ps)} {k : β → Ps → Option (α × Ps)} {h : Ps → Option (β × Ps)} {d : Int} (h1 : restP sg x f y g d) (h2 : resP sg y h z)
    (e : ∀ s, pur y = some s → g s = (h s).bind fun p => k p.1 p.2) : restP sg x f z.2 (k z.1) d := by
  obtain ⟨a1, a2, a3, a4⟩ := h1; obtain ⟨b1, b2, b3, b4, b5⟩ := h2
  refine ⟨b1, by omega, by omega, ?_⟩
  rw [b4, ← a4]
  cases hs : pur y with
  | none => rfl
  | some s =>
    simp only [Option.bind_some]; rw [e s hs]
    rw [hs] at b5
    simp only [Option.bind_some] at b5
    cases hp : h s with
    | none => rfl
    | some p => simp only [Option.map_some, Option.bind_some]; rw [b5 p hp]
theorem rest_done {α : Type} {sg : List Sg} {x y : Gs} {f : Ps → Option (α × Ps)} {a : α} (h : restP sg x f y (fun s => some (a, s)) 0) : resP sg x f (a, y) := by
  obtain ⟨a1, a2, a3, a4⟩ := h
  refine ⟨a1, by simp only; omega, a3, ?_, ?_⟩
  · rw [← a4]; cases pur y <;> rfl
  · intro p hp; rw [← a4] at hp
    cases hs : pur y with
    | none => rw [hs] at hp; cases hp
    | some s => rw [hs] at hp; simp only [Option.bind_some, Option.some.injEq] at hp; rw [← hp]
theorem rest_bad {α : Type} {sg : List Sg} {x y : Gs} {f g : Ps → Option (α × Ps)} {a : α} (h : restP sg x f y g 0) (hb : y.bad = true) : resP sg x f (a, y) := by
  obtain ⟨a1, a2, a3, a4⟩ := h
  rw [pur_t hb] at a4
  have hn : (pur x).bind f = none := a4.symm
  refine ⟨a1, by simp only; omega, a3, ?_, fun p hp => by rw [hn] at hp; cases hp⟩
  rw [hn, pur_t hb]; rfl
theorem rest_kill {α : Type} {sg : List Sg} {x y : Gs} {f g : Ps → Option (α × Ps)} {d : Int} (h : restP sg x f y g d) (e : ∀ s, pur y = some s → g s = none) : (pur x).bind f = none := by
  rw [← h.2.2.2]
  cases hs : pur y with
  | none => rfl
  | some s => exact e s hs
theorem rest_killB {α : Type} {sg : List Sg} {x y : Gs} {f g : Ps → Option (α × Ps)} {a : α} (h : restP sg x f y g 0) (e : ∀ s, pur y = some s → g s = none) : resP sg x f (a, gBad y) := by
  have hn := rest_kill h e
  refine ⟨bad_ok h.1, by simp only [gBad]; have := h.2.1; omega, h.2.2.1, ?_, fun p hp => by rw [hn] at hp; cases hp⟩
  rw [hn, bad_pur]; rfl
theorem rest_dp {α : Type} {sg : List Sg} {x y : Gs} {f g g' : Ps → Option (α × Ps)} {d e : Int} (h : restP sg x f y g d) (hd : 0 ≤ y.deep + e ∧ y.deep + e ≤ 21) (hg : ∀ s, pur y = some s → g s = g' (dp s e)) : restP sg x f (gDp y e) g' (d + e) := by
  obtain ⟨a1, a2, a3, a4⟩ := h
  refine ⟨⟨a1.1, hd, a1.2.2⟩, by simp only [gDp]; omega, a3, ?_⟩
  rw [← a4]
  cases hb : y.bad with
  | true => rw [pur_t hb, pur_t (by simpa [gDp] using hb)]; rfl
  | false =>
    rw [pur_f hb, pur_f (g := gDp y e) (by simpa [gDp] using hb)]
    simp only [Option.bind_some]
    rw [hg _ (pur_f hb)]; rfl
theorem rest_bad2 {α : Type} {sg : List Sg} {x y : Gs} {f g g' : Ps → Option (α × Ps)} {d : Int} (h : restP sg x f y g d) (hg : ∀ s, pur y = some s → g s = none) : restP sg x f (gBad y) g' d := by
  have hn := rest_kill h hg
  refine ⟨bad_ok h.1, h.2.1, h.2.2.1, ?_⟩
  rw [bad_pur, hn]; rfl
theorem tst_y {sg : List Sg} {g : Gs} {s : Ps} {m : List UInt8} (hs : pur g = some s) (hm : isG sg g 4 m = true) : isM sg s m = true := skip_y hm hs
theorem tst_n {sg : List Sg} {g : Gs} {s : Ps} {m : List UInt8} (hs : pur g = some s) (hm : isG sg g 4 m = false) : isM sg s m = false := skip_no hm hs
theorem tst_Wn {sg : List Sg} {g : Gs} {s : Ps} {m : List UInt8} (hs : pur g = some s) (hm : isG sg g 1 m = false) : isW sg s m = false := skip_no hm hs
theorem rest_adv {α : Type} {sg : List Sg} {x y : Gs} {f g g' : Ps → Option (α × Ps)} {d : Int} {m : List UInt8} {k : Int} (h : restP sg x f y g d) (hk : k ≠ 0) (hm : isG sg y k m = true) (hg : ∀ s, pur y = some s → isT sg s k m = true → g s = g' (adv s)) :
    restP sg x f (gAdv y) g' d := by
  obtain ⟨h1, h2, h3⟩ := skip_yes h.1 hk hm
  refine rest_step h h1 fun s hs => ?_
  have ht := skip_y hm hs
  rw [hg s hs ht, ht]; rfl
theorem rest_take {α : Type} {sg : List Sg} {x y : Gs} {f g g' : Ps → Option (α × Ps)} {d : Int} {m : List UInt8} (h : restP sg x f y g d) (hg : ∀ s, pur y = some s → g s = (wantM sg m s).bind g') : restP sg x f (gTake sg y m) g' d :=
  rest_step h (take_step h.1).1 hg
theorem res_rest {α : Type} {sg : List Sg} {x : Gs} {y : α × Gs} {f : Ps → Option (α × Ps)} (h : resP sg x f y) : restP sg x f y.2 (fun s => some (y.1, s)) 0 := by
  obtain ⟨a1, a2, a3, a4, a5⟩ := h
  refine ⟨a1, by omega, a3, ?_⟩
  cases hp : (pur x).bind f with
  | none => rw [a4, hp]; rfl
  | some p => rw [a4, hp, a5 p hp]; rfl
theorem listR_end {sg : List Sg} {one : Ps → PR} {m : List UInt8} {n : Nat} {ks : List Int} {s : Ps} (h : isM sg s m = true) : listR sg one m (n + 1) ks s = some (ks, s) := by rw [listR, if_pos h]
theorem listR_go {sg : List Sg} {one : Ps → PR} {m : List UInt8} {n : Nat} {ks : List Int} {s : Ps} (h : isM sg s m = false) : listR sg one m (n + 1) ks s = (one s).bind fun p => if isM sg p.2 [44] then listR sg one m n (ks ++ [p.1]) (adv p.2) else some (ks ++ [p.1], p.2) := by
  rw [listR, if_neg (by simp [h])]
end Go.My
end
section
set_option linter.unusedVariables false
set_option linter.unusedSimpArgs false
namespace Go.My
open Go.Eng
def arrS (sg : List Sg) : Nat → Int → Int
  | 0, i => i
  | n + 1, i => if i + 1 < sg.length ∧ (sgO sg i).kind = 1 then (if (sgO sg (i + 1)).text = [44] then arrS sg n (i + 2) else i + 1) else i
def isAt (sg : List Sg) (i k : Int) (t : List UInt8) : Bool := decide ((sgO sg i).kind = k) && ((sgO sg i).text == t)
def arrowT (sg : List Sg) (i : Int) : Bool := decide (i + 1 < sg.length) && (isAt sg i 4 [41] && isAt sg (i + 1) 4 [61, 62])
def arrowS (sg : List Sg) (s : Ps) : Bool := arrowT sg (arrS sg (sg.length + 1) (s.pos + 1))
def sgM (sg : List Sg) : Prop := ∀ e ∈ sg, (e.text = [41] ∨ e.text = [61, 62] ∨ e.text = [44]) → e.kind = 4
theorem sgO_in {sg : List Sg} {i : Int} (h : (sgO sg i).text ≠ [] ∨ (sgO sg i).kind ≠ 0) : i.toNat < sg.length ∧ sgO sg i ∈ sg := by
  unfold sgO at h ⊢
  rw [List.getD_eq_getElem?_getD] at h ⊢
  cases hx : sg[i.toNat]? with
  | none => rw [hx] at h; simp [sg00] at h
  | some e => exact ⟨(List.getElem?_eq_some_iff.1 hx).1, by simpa using List.mem_of_getElem? hx⟩
theorem sgM_at {sg : List Sg} (hm : sgM sg) {i : Int} (h : (sgO sg i).text = [41] ∨ (sgO sg i).text = [61, 62] ∨ (sgO sg i).text = [44]) : (sgO sg i).kind = 4 := by
  refine hm _ (sgO_in (.inl ?_)).2 h
  rcases h with h | h | h <;> rw [h] <;> simp
def arrowU (sg : List Sg) (i : Int) : Bool := ((sgO sg i).text == [41]) && ((sgO sg (i + 1)).text == [61, 62])
theorem arrowU_T {sg : List Sg} (hm : sgM sg) {i : Int} (h0 : 0 ≤ i) : arrowU sg i = arrowT sg i := by
  unfold arrowU arrowT isAt
  cases h1 : ((sgO sg i).text == [41]) with
  | false => simp
  | true =>
    have k1 := sgM_at hm (.inl (by simpa using h1))
    cases h2 : ((sgO sg (i + 1)).text == [61, 62]) with
    | false => simp
    | true =>
      have k2 := sgM_at hm (.inr (.inl (by simpa using h2)))
      have := (sgO_in (sg := sg) (i := i + 1) (.inl (by simp at h2; rw [h2]; simp))).1
      simp [k1, k2]; omega
theorem nmAt_k {sg : List Sg} {i : Int} (h : nmAt sg i = true) : (sgO sg i).kind = 1 := by
  simp [nmAt] at h; exact h.1
theorem arr_cmp {sg : List Sg} (hm : sgM sg) : ∀ (n : Nat) (i : Int), 0 ≤ i → arrowT sg (arrF sg n i) = true → arrowT sg (arrS sg n i) = true
  | 0, i, h0, h => by simpa [arrF, arrS] using h
  | n + 1, i, h0, h => by
    rw [arrF] at h; rw [arrS]
    cases hn : nmAt sg i with
    | false =>
      rw [hn] at h; simp only [Bool.false_eq_true, if_false] at h
      have h4 : (sgO sg i).kind = 4 := by
        simp only [arrowT, isAt, Bool.and_eq_true, decide_eq_true_eq] at h; exact h.2.1.1
      rw [if_neg (by rw [h4]; omega)]; exact h
    | true =>
      rw [hn, if_pos rfl] at h
      have hk := nmAt_k hn
      have hlt : i + 1 < sg.length := by
        split at h
        · rename_i ht
          have := (sgO_in (sg := sg) (i := i + 1) (.inl (by rw [ht]; simp))).1; omega
        · simp only [arrowT, Bool.and_eq_true, decide_eq_true_eq] at h; omega
      rw [if_pos ⟨hlt, hk⟩]
      split at h
      · rename_i ht; rw [if_pos ht]; exact arr_cmp hm n (i + 2) (by omega) h
      · rename_i ht; rw [if_neg ht]; exact h
theorem arr_bad {sg : List Sg} (hm : sgM sg) : ∀ (n : Nat) (i : Int), 0 ≤ i → arrowT sg (arrS sg n i) = true → arrowT sg (arrF sg n i) = false → ∀ (N : Nat) (ks : List Int) (s : Ps), s.pos = i → listR sg (nameR sg) [41] N ks s = none
  | 0, i, h0, h1, h2 => by simp [arrF, arrS] at h1 h2; rw [h1] at h2; cases h2
  | n + 1, i, h0, h1, h2 => by
    intro N ks s hs
    match N with
    | 0 => rfl
    | N + 1 =>
    rw [arrS] at h1; rw [arrF] at h2
    cases hn : nmAt sg i with
    | false =>
      rw [hn] at h2; simp only [Bool.false_eq_true, if_false] at h2
      split at h1
      · rename_i hh
        have hm4 : isM sg s [41] = false := by simp [isM, isT, hs, hh.2]
        rw [listR, if_neg (by simp [hm4]), nameR, hs, if_neg (by simp [hn])]; rfl
      · rw [h1] at h2; cases h2
    | true =>
      rw [hn, if_pos rfl] at h2
      have hk := nmAt_k hn
      have hm4 : isM sg s [41] = false := by simp [isM, isT, hs, hk]
      split at h1
      · split at h1
        · rename_i ht; rw [if_pos ht] at h2
          have hk2 := sgM_at hm (.inr (.inr ht))
          rw [listR, if_neg (by simp [hm4]), nameR, hs, if_pos hn, leafR, advR, putR]
          split
          · rfl
          · simp only [Option.map_some, Option.bind_some, adv]
            have hc : isM sg ⟨s.pos + 1, s.deep, s.nodes ++ [⟨1, (sgO sg s.pos).text, [], false⟩]⟩ [44] = true := by simp [isM, isT, hs, ht, hk2]
            rw [if_pos hc]
            exact arr_bad hm n (i + 2) (by omega) h1 h2 N _ _ (by simp only; omega)
        · rename_i ht; rw [if_neg ht] at h2; rw [h1] at h2; cases h2
      · exfalso
        have : (sgO sg i).kind = 4 := by simp only [arrowT, isAt, Bool.and_eq_true, decide_eq_true_eq] at h1; exact h1.2.1.1
        omega
theorem pE_nm {sg : List Sg} (hm : sgM sg) : ∀ (n : Nat) (t : NT) (s : Ps), nmAt sg s.pos = true → (sgO sg (s.pos + 1)).text = [44] → 0 ≤ s.pos → (pE sg n t s = none ∨ ∃ p, pE sg n t s = some p ∧ p.2.pos = s.pos + 1)
  | 0, t, s, h1, h2, h0 => .inl (by cases t <;> rfl)
  | n + 1, t, s, h1, h2, h0 => by
    have hk := sgM_at hm (.inr (.inr h2))
    have tst : ∀ (q : Ps) (m : List UInt8), q.pos = s.pos + 1 → m ≠ [44] → isM sg q m = false := by
      intro q m hq hne; simp only [isM, isT, hq, h2]
      simp; intro _; exact fun e => hne e.symm
    cases t with
    | value =>
      rw [pE]
      rcases pE_nm hm n .pick s h1 h2 h0 with h | ⟨p, h, hp⟩
      · left; rw [h]; rfl
      · right; refine ⟨p, ?_, hp⟩
        rw [h, Option.bind_some, if_neg (by simp [tst p.2 [46, 46] hp (by simp)])]
    | pick =>
      rw [pE]
      split
      · exact .inl rfl
      · rcases pE_nm hm n (.chain 0) (dp s 1) h1 h2 h0 with h | ⟨p, h, hp⟩
        · left; rw [h]; rfl
        · right; refine ⟨(p.1, dp p.2 (-1)), ?_, hp⟩
          rw [h, Option.bind_some, if_neg (by simp [tst p.2 [63] hp (by simp)])]
    | chain l =>
      rw [pE]
      split
      · exact pE_nm hm n .fin s h1 h2 h0
      · rcases pE_nm hm n (.chain (l + 1)) s h1 h2 h0 with h | ⟨p, h, hp⟩
        · left; rw [h]; rfl
        · right
          have hc : chMark sg l p.2 = [] := by
            have : ∀ m ∈ marksAt l, isM sg p.2 m = false := by
              intro m hmm
              refine tst p.2 m hp ?_
              intro e; subst e
              unfold marksAt at hmm
              split at hmm <;> simp at hmm
            rw [chMark, List.find?_eq_none.2 (by intro m hmm; simp [this m hmm])]; rfl
          refine ⟨(p.1, p.2), ?_, hp⟩
          rw [h, Option.bind_some, chnR, if_neg (by simp), if_pos hc]; rfl
    | fin =>
      rw [pE]
      rcases pE_nm hm n .base s h1 h2 h0 with h | ⟨p, h, hp⟩
      · left; rw [h]; rfl
      · right; refine ⟨p, ?_, hp⟩
        rw [h, Option.bind_some, endR, if_neg (by simp [tst p.2 [40] hp (by simp)]), if_neg (by simp [tst p.2 [46] hp (by simp)])]
    | base =>
      rw [pE, if_pos (nmAt_k h1), nameR, if_pos h1, leafR, advR, putR]
      split
      · exact .inl rfl
      · exact .inr ⟨_, rfl, rfl⟩
theorem pE_kw {sg : List Sg} : ∀ (n : Nat) (t : NT) (s : Ps), nmAt sg s.pos = false → (sgO sg s.pos).kind = 1 → pE sg n t s = none
  | 0, t, s, h1, h2 => by cases t <;> rfl
  | n + 1, t, s, h1, h2 => by
    cases t with
    | value => rw [pE, pE_kw n .pick s h1 h2]; rfl
    | pick => rw [pE]; split
              · rfl
              · rw [pE_kw n (.chain 0) (dp s 1) h1 h2]; rfl
    | chain l => rw [pE]; split
                 · exact pE_kw n .fin s h1 h2
                 · rw [pE_kw n (.chain (l + 1)) s h1 h2]; rfl
    | fin => rw [pE, pE_kw n .base s h1 h2]; rfl
    | base => rw [pE, if_pos h2, nameR, if_neg (by simp [h1])]
theorem arr_val {sg : List Sg} (hm : sgM sg) {s : Ps} {n : Nat} {x : Nd} (h0 : 0 ≤ s.pos) (h1 : arrowS sg s = true) (h2 : arrow sg s = false) (k : Int → Nd) :
    ((pE sg n .value (adv s)).bind fun p => closeR sg [41] (k p.1) p.2) = none := by
  have h2' : arrowT sg (arrF sg (sg.length + 1) (s.pos + 1)) = false := by
    have hp : ∀ (n : Nat) (i : Int), 0 ≤ i → 0 ≤ arrF sg n i := by
      intro n
      induction n with
      | zero => intro i hi; simpa [arrF] using hi
      | succ n ih => intro i hi; rw [arrF]; split
                     · split
                       · exact ih _ (by omega)
                       · omega
                     · exact hi
    rw [← arrowU_T hm (hp _ _ (by omega))]; exact h2
  unfold arrowS at h1
  rw [arrS] at h1; rw [arrF] at h2'
  cases hn : nmAt sg (s.pos + 1) with
  | false =>
    rw [hn] at h2'; simp only [Bool.false_eq_true, if_false] at h2'
    split at h1
    · rename_i hh
      rw [pE_kw n .value (adv s) hn hh.2]; rfl
    · rw [h1] at h2'; cases h2'
  | true =>
    rw [hn, if_pos rfl] at h2'
    split at h1
    · split at h1
      · rename_i ht
        rcases pE_nm hm n .value (adv s) hn (by simpa [adv] using ht) (by simp only [adv]; omega) with h | ⟨p, h, hp⟩
        · rw [h]; rfl
        · rw [h, Option.bind_some, closeR]
          have : isM sg p.2 [41] = false := by
            simp only [isM, isT, hp, adv]
            rw [show s.pos + 1 + 1 = s.pos + 1 + 1 from rfl, ht]; simp
          rw [if_neg (by simp [this])]
      · rename_i ht; rw [if_neg ht] at h2'; rw [h1] at h2'; cases h2'
    · exfalso
      have : (sgO sg (s.pos + 1)).kind = 4 := by simp only [arrowT, isAt, Bool.and_eq_true, decide_eq_true_eq] at h1; exact h1.2.1.1
      have := nmAt_k hn
      omega
end Go.My
end
section
set_option linter.unusedVariables false
set_option linter.unusedSimpArgs false
namespace Go.My
open Go.Eng
theorem pE_pick {sg : List Sg} {n : Nat} {s : Ps} : pE sg (n + 1) .pick s = if 20 ≤ s.deep then none else (pE sg n (.chain 0) (dp s 1)).bind fun p =>
      if isM sg p.2 [63] then (pE sg n .pick (adv p.2)).bind fun a => (wantM sg [58] a.2).bind fun s1 => (pE sg n .pick s1).bind fun b => (putR ⟨8, [], [p.1, a.1, b.1], false⟩ b.2).map fun q => (q.1, dp q.2 (-1))
      else some (p.1, dp p.2 (-1)) := rfl
theorem pE_ch {sg : List Sg} {n l : Nat} {s : Ps} : pE sg (n + 1) (.chain l) s = if l = 6 then pE sg n .fin s else (pE sg n (.chain (l + 1)) s).bind fun p => chnR sg l (pE sg n (.chain (l + 1))) (2 * sg.length + 4) [] [p.1] p.2 := rfl
theorem nod_ok {α : Type} {sg : List Sg} {x : Gs} {f : Ps → Option (α × Ps)} {y : α × Gs} (h : nodP sg x f y) : gsOk sg y.2 := h.1.1
theorem nod_dp {α : Type} {sg : List Sg} {x : Gs} {f : Ps → Option (α × Ps)} {y : α × Gs} (h : nodP sg x f y) : y.2.deep = x.deep ∧ x.pos ≤ y.2.pos ∧ y.2.pos ≤ sg.length ∧ (y.2.bad = false → x.bad = false ∧ x.pos < y.2.pos) := by
  refine ⟨h.1.2.1, h.1.2.2.1, h.1.1.1.2, fun hb => ⟨?_, h.2 hb⟩⟩
  cases hx : x.bad with
  | false => rfl
  | true =>
    have := h.1.2.2.2.1
    rw [pur_t hx, pur_f hb] at this; cases this
theorem add_dp {g : Gs} {x : Nd} : (gAdd g x).deep = g.deep ∧ (gAdd g x).pos = g.pos ∧ ((gAdd g x).bad = false → g.bad = false) := by
  unfold gAdd; split
  · rename_i h; exact ⟨rfl, rfl, fun hb => by simp [gBad] at hb⟩
  · exact ⟨rfl, rfl, fun hb => hb⟩
theorem rest_add {sg : List Sg} {x y : Gs} {f : Ps → PR} {w : Nd} (h : restP sg x f y (putR w) 0) (hw : nodB w) : resP sg x f (gAddK y, gAdd y w) := by
  have h2 := rest_res (k := fun a s => some (a, s)) h (add_res h.1 hw) (fun s _ => by cases putR w s <;> rfl)
  exact rest_done h2
theorem rest_close {sg : List Sg} {x y : Gs} {f : Ps → PR} {w : Nd} {m : List UInt8} (h : restP sg x f y (closeR sg m w) 0) (hw : nodB w) : resP sg x f (gCloseK sg y m, gClose sg y m w) := by
  have h2 := rest_res (k := fun a s => some (a, s)) h (close_nod h.1 hw).1 (fun s _ => by cases closeR sg m w s <;> rfl)
  exact rest_done h2
theorem pick_in {sg : List Sg} {x : Gs} {n : Nat} (h : gsOk sg x) (hd : x.deep ≤ 20) : restP sg x (pE sg (n + 1) .pick) (gDp (if x.deep = 20 then gBad x else x) 1)
    (fun s => (pE sg n (.chain 0) s).bind fun p => if isM sg p.2 [63] then (pE sg n .pick (adv p.2)).bind fun a => (wantM sg [58] a.2).bind fun s1 => (pE sg n .pick s1).bind fun b => (putR ⟨8, [], [p.1, a.1, b.1], false⟩ b.2).map fun q => (q.1, dp q.2 (-1)) else some (p.1, dp p.2 (-1))) 1 := by
  split
  · rename_i h20
    have h2 := rest_bad2 (d := 0) (g' := pE sg (n + 1) .pick) (rest_0 (f := pE sg (n + 1) .pick) h) (fun s hs => by
      obtain ⟨_, rfl⟩ := pur_some.1 hs
      rw [pE_pick, if_pos (by simp only; omega)])
    refine rest_dp (d := 0) h2 ⟨by simp only [gBad]; omega, by simp only [gBad]; omega⟩ (fun s hs => ?_)
    rw [bad_pur] at hs; cases hs
  · rename_i h20
    refine rest_dp (d := 0) (rest_0 h) ⟨by have := h.2.1.1; omega, by omega⟩ (fun s hs => ?_)
    obtain ⟨_, rfl⟩ := pur_some.1 hs
    rw [pE_pick, if_neg (by simp only; omega)]
theorem pick_0 {sg : List Sg} {x : Gs} {n : Nat} {z : Int × Gs} (h : gsOk sg x) (hd : x.deep ≤ 20) (h1 : nodP sg (gDp (if x.deep = 20 then gBad x else x) 1) (pE sg n (.chain 0)) z) :
    restP sg x (pE sg (n + 1) .pick) z.2 (fun s => if isM sg s [63] then (pE sg n .pick (adv s)).bind fun a => (wantM sg [58] a.2).bind fun s1 => (pE sg n .pick s1).bind fun b => (putR ⟨8, [], [z.1, a.1, b.1], false⟩ b.2).map fun q => (q.1, dp q.2 (-1)) else some (z.1, dp s (-1))) 1 :=
  rest_res (k := fun k s => if isM sg s [63] then (pE sg n .pick (adv s)).bind fun a => (wantM sg [58] a.2).bind fun s1 => (pE sg n .pick s1).bind fun b => (putR ⟨8, [], [k, a.1, b.1], false⟩ b.2).map fun q => (q.1, dp q.2 (-1)) else some (k, dp s (-1))) (pick_in h hd) h1.1 (fun _ _ => rfl)
theorem pick_pos {x : Gs} : (gDp (if x.deep = 20 then gBad x else x) 1).pos = x.pos ∧ (gDp (if x.deep = 20 then gBad x else x) 1).deep = x.deep + 1 ∧ ((gDp (if x.deep = 20 then gBad x else x) 1).bad = false → x.bad = false ∧ x.deep ≠ 20) := by
  split
  · exact ⟨rfl, rfl, fun h => by simp [gDp, gBad] at h⟩
  · rename_i h; exact ⟨rfl, rfl, fun h2 => ⟨h2, h⟩⟩
theorem pick_no {sg : List Sg} {x : Gs} {n : Nat} {z : Int × Gs} (h : gsOk sg x) (hd : x.deep ≤ 20) (h1 : nodP sg (gDp (if x.deep = 20 then gBad x else x) 1) (pE sg n (.chain 0)) z) (hq : isG sg z.2 4 [63] = false) :
    nodP sg x (pE sg (n + 1) .pick) (z.1, gDp z.2 (-1)) := by
  have h2 := rest_to (pick_0 h hd h1) (g' := fun s => some (z.1, dp s (-1))) (fun s hs => by rw [if_neg (by simp [tst_n hs hq])])
  obtain ⟨e1, e2, e3, e4⟩ := nod_dp h1
  obtain ⟨p1, p2, p3⟩ := @pick_pos x
  refine ⟨rest_done (rest_dp (e := -1) h2 ?_ (fun s hs => rfl)), fun hb => ?_⟩
  · have := h.2.1; omega
  · have := e4 hb; show x.pos < z.2.pos; omega
theorem pick_yes {sg : List Sg} {x : Gs} {n : Nat} {z a b : Int × Gs} (h : gsOk sg x) (hd : x.deep ≤ 20) (h1 : nodP sg (gDp (if x.deep = 20 then gBad x else x) 1) (pE sg n (.chain 0)) z) (hq : isG sg z.2 4 [63] = true)
    (h2 : nodP sg (gAdv z.2) (pE sg n .pick) a) (h3 : nodP sg (gTake sg a.2 [58]) (pE sg n .pick) b) :
    nodP sg x (pE sg (n + 1) .pick) (gAddK b.2, gDp (gAdd b.2 ⟨8, [], [z.1, a.1, b.1], false⟩) (-1)) := by
  have k1 := rest_adv (g' := fun s => (pE sg n .pick s).bind fun a => (wantM sg [58] a.2).bind fun s1 => (pE sg n .pick s1).bind fun b => (putR ⟨8, [], [z.1, a.1, b.1], false⟩ b.2).map fun q => (q.1, dp q.2 (-1)))
    (pick_0 h hd h1) (by omega) hq (fun s hs ht => by rw [if_pos (show isM sg s [63] = true from ht)])
  have k2 := rest_res (k := fun a s => (wantM sg [58] s).bind fun s1 => (pE sg n .pick s1).bind fun b => (putR ⟨8, [], [z.1, a, b.1], false⟩ b.2).map fun q => (q.1, dp q.2 (-1))) k1 h2.1 (fun _ _ => rfl)
  have k3 := rest_take (g' := fun s1 => (pE sg n .pick s1).bind fun b => (putR ⟨8, [], [z.1, a.1, b.1], false⟩ b.2).map fun q => (q.1, dp q.2 (-1))) k2 (fun _ _ => rfl)
  have k4 := rest_res (k := fun b s => (putR ⟨8, [], [z.1, a.1, b], false⟩ s).map fun q => (q.1, dp q.2 (-1))) k3 h3.1 (fun _ _ => rfl)
  have hw : nodB ⟨8, [], [z.1, a.1, b.1], false⟩ := ⟨by simp, by simp⟩
  have k5 := rest_res (k := fun k s => some (k, dp s (-1))) k4 (add_res k4.1 hw) (fun s _ => by cases putR ⟨8, [], [z.1, a.1, b.1], false⟩ s <;> rfl)
  simp only at k5
  obtain ⟨d1, d2, d3⟩ := @add_dp b.2 ⟨8, [], [z.1, a.1, b.1], false⟩
  refine ⟨rest_done (rest_dp (e := -1) k5 ?_ (fun s hs => rfl)), fun hb => ?_⟩
  · have := k5.2.1; have := h.2.1; omega
  · have hb2 := d3 hb
    obtain ⟨p1, p2, p3⟩ := @pick_pos x
    have e1 := nod_dp h1; have e2 := nod_dp h2; have e3 := nod_dp h3
    have e4 := take_step (m := [58]) (nod_ok h2)
    have e5 := (take_step (m := [58]) (nod_ok h2)).1.2.2.1
    show x.pos < (gAdd b.2 ⟨8, [], [z.1, a.1, b.1], false⟩).pos
    have ea : (gAdv z.2).pos = z.2.pos + 1 := rfl
    have := e3.2.1
    omega
def valI (sg : List Sg) (n : Nat) (x y : Gs) (ks : List Int) (N : Nat) : Prop :=
  restP sg x (pE sg (n + 1) .value) y (fun s => (casR sg (pE sg n .value) N ks s).bind fun q => putR ⟨10, [], q.1, false⟩ q.2) 0 ∧ (sg.length : Int) - y.pos < N ∧ (ks.length : Int) ≤ y.pos + 1 ∧ (y.bad = false → x.pos < y.pos)
theorem val_no {sg : List Sg} {x : Gs} {n : Nat} {z : Int × Gs} (h : gsOk sg x) (h1 : nodP sg x (pE sg n .pick) z) (hq : isG sg z.2 4 [46, 46] = false) : nodP sg x (pE sg (n + 1) .value) z := by
  have k1 := rest_res (k := fun k s => if isM sg s [46, 46] then (casR sg (pE sg n .value) (sg.length + 1) [k] s).bind fun q => putR ⟨10, [], q.1, false⟩ q.2 else some (k, s)) (rest_0 (f := pE sg (n + 1) .value) h) h1.1 (fun _ _ => rfl)
  have k2 := rest_to k1 (g' := fun s => some (z.1, s)) (fun s hs => by rw [if_neg (by simp [tst_n hs hq])])
  exact ⟨rest_done k2, h1.2⟩
theorem val_0 {sg : List Sg} {x : Gs} {n : Nat} {z : Int × Gs} (h : gsOk sg x) (h1 : nodP sg x (pE sg n .pick) z) (hq : isG sg z.2 4 [46, 46] = true) : valI sg n x z.2 [z.1] (sg.length + 1) := by
  have k1 := rest_res (k := fun k s => if isM sg s [46, 46] then (casR sg (pE sg n .value) (sg.length + 1) [k] s).bind fun q => putR ⟨10, [], q.1, false⟩ q.2 else some (k, s)) (rest_0 (f := pE sg (n + 1) .value) h) h1.1 (fun _ _ => rfl)
  have k2 := rest_to k1 (g' := fun s => (casR sg (pE sg n .value) (sg.length + 1) [z.1] s).bind fun q => putR ⟨10, [], q.1, false⟩ q.2) (fun s hs => by rw [if_pos (tst_y hs hq)])
  have := k2.1.1
  exact ⟨k2, by omega, by simp; omega, h1.2⟩
theorem val_go {sg : List Sg} {x y : Gs} {n N : Nat} {ks : List Int} {w : Int × Gs} (hs : sgB sg) (h : valI sg n x y ks N) (hq : isG sg y 4 [46, 46] = true)
    (h2 : nodP sg (gNameN sg (gAdv y)) (callR sg (pE sg n .value) (gNameK sg (gAdv y))) w) : ∃ M, N = M + 1 ∧ valI sg n x w.2 (ks ++ [w.1]) M := by
  obtain ⟨h1, hN, hk, hb⟩ := h
  obtain ⟨hl1, hl⟩ := isG_lt hq (by omega)
  match N with
  | 0 => omega
  | M + 1 =>
    refine ⟨M, rfl, ?_⟩
    have k1 := rest_adv (g' := fun s => ((nameR sg s).bind fun p => (callR sg (pE sg n .value) p.1 p.2).bind fun q => casR sg (pE sg n .value) M (ks ++ [q.1]) q.2).bind fun q => putR ⟨10, [], q.1, false⟩ q.2)
      h1 (by omega) hq (fun s hs ht => by rw [casR, if_pos (show isM sg s [46, 46] = true from ht)])
    have k2 := rest_res (k := fun k s => ((callR sg (pE sg n .value) k s).bind fun q => casR sg (pE sg n .value) M (ks ++ [q.1]) q.2).bind fun q => putR ⟨10, [], q.1, false⟩ q.2) k1 (nameN_nod hs k1.1).1 (fun s _ => by simp only [Option.bind_assoc])
    have k3 := rest_res (k := fun k s => (casR sg (pE sg n .value) M (ks ++ [k]) s).bind fun q => putR ⟨10, [], q.1, false⟩ q.2) k2 h2.1 (fun s _ => by simp only [Option.bind_assoc])
    have e0 : (gAdv y).pos ≤ (gNameN sg (gAdv y)).pos := (nameN_nod hs k1.1).1.2.2.1
    have e1 := nod_dp h2
    have ea : (gAdv y).pos = y.pos + 1 := rfl
    refine ⟨k3, by omega, by simp; omega, fun hb2 => ?_⟩
    have := h1.2.2.1
    omega
theorem val_end {sg : List Sg} {x y : Gs} {n N : Nat} {ks : List Int} (h : valI sg n x y ks N) (hq : isG sg y 4 [46, 46] = false) (hs : sgB sg) : nodP sg x (pE sg (n + 1) .value) (gAddK y, gAdd y ⟨10, [], ks, false⟩) := by
  obtain ⟨h1, hN, hk, hb⟩ := h
  have hp := h1.1.1
  match N with
  | 0 => omega
  | M + 1 =>
    have k1 := rest_to h1 (g' := putR ⟨10, [], ks, false⟩) (fun s hs => by rw [casR, if_neg (by simp [tst_n hs hq])]; rfl)
    have := hs.1
    refine ⟨rest_add k1 ⟨by simp, by simp only; omega⟩, fun hb2 => ?_⟩
    obtain ⟨d1, d2, d3⟩ := @add_dp y ⟨10, [], ks, false⟩
    simp only [d2]; exact hb (d3 hb2)
theorem listR_pre {sg : List Sg} {one : Ps → PR} {m : List UInt8} {a : List Int} : ∀ (n : Nat) (ks : List Int) (s : Ps), listR sg one m n (a ++ ks) s = (listR sg one m n ks s).map fun p => (a ++ p.1, p.2)
  | 0, ks, s => rfl
  | n + 1, ks, s => by
    rw [listR, listR]
    split
    · rfl
    · cases one s with
      | none => rfl
      | some p =>
        simp only [Option.bind_some]
        split
        · rw [List.append_assoc, listR_pre n (ks ++ [p.1])]
        · simp
def listI (sg : List Sg) (one : Ps → PR) (m : List UInt8) (x y : Gs) (ks : List Int) (N : Nat) : Prop :=
  restP sg x (listR sg one m (sg.length + 1) []) y (listR sg one m N ks) 0 ∧ (sg.length : Int) - y.pos < N ∧ (ks.length : Int) ≤ y.pos
theorem list_0 {sg : List Sg} {one : Ps → PR} {m : List UInt8} {x : Gs} (h : gsOk sg x) : listI sg one m x x [] (sg.length + 1) := by
  have := h.1
  exact ⟨rest_0 h, by omega, by simp; omega⟩
theorem list_bad {sg : List Sg} {one : Ps → PR} {m : List UInt8} {x y : Gs} {ks : List Int} {N : Nat} (h : listI sg one m x y ks N) (hb : y.bad = true) : resP sg x (listR sg one m (sg.length + 1) []) (ks, y) := rest_bad h.1 hb
theorem list_end {sg : List Sg} {one : Ps → PR} {m : List UInt8} {x y : Gs} {ks : List Int} {N : Nat} (h : listI sg one m x y ks N) (hq : isG sg y 4 m = true) : resP sg x (listR sg one m (sg.length + 1) []) (ks, y) := by
  obtain ⟨h1, hN, hk⟩ := h
  have := h1.1.1
  match N with
  | 0 => omega
  | M + 1 => exact rest_done (rest_to h1 (g' := fun s => some (ks, s)) (fun s hs => listR_end (tst_y hs hq)))
theorem list_1 {sg : List Sg} {one : Ps → PR} {m : List UInt8} {x y : Gs} {ks : List Int} {M : Nat} {z : Int × Gs} (h : listI sg one m x y ks (M + 1)) (hq : isG sg y 4 m = false) (hz : nodP sg y one z) :
    restP sg x (listR sg one m (sg.length + 1) []) z.2 (fun s => if isM sg s [44] then listR sg one m M (ks ++ [z.1]) (adv s) else some (ks ++ [z.1], s)) 0 := by
  have k1 := rest_to h.1 (g' := fun s => (one s).bind fun p => if isM sg p.2 [44] then listR sg one m M (ks ++ [p.1]) (adv p.2) else some (ks ++ [p.1], p.2)) (fun s hs => listR_go (tst_n hs hq))
  exact rest_res (k := fun k s => if isM sg s [44] then listR sg one m M (ks ++ [k]) (adv s) else some (ks ++ [k], s)) k1 hz.1 (fun _ _ => rfl)
theorem list_pos {sg : List Sg} {one : Ps → PR} {m : List UInt8} {x y : Gs} {ks : List Int} {N : Nat} (h : listI sg one m x y ks N) : ∃ M, N = M + 1 := by
  obtain ⟨h1, hN, hk⟩ := h
  have := h1.1.1
  match N with
  | 0 => omega
  | M + 1 => exact ⟨M, rfl⟩
theorem list_out {sg : List Sg} {one : Ps → PR} {m : List UInt8} {x y : Gs} {ks : List Int} {N : Nat} {z : Int × Gs} (h : listI sg one m x y ks N) (hq : isG sg y 4 m = false) (hz : nodP sg y one z) (hc : isG sg z.2 4 [44] = false) :
    resP sg x (listR sg one m (sg.length + 1) []) (ks ++ [z.1], z.2) := by
  obtain ⟨M, rfl⟩ := list_pos h
  exact rest_done (rest_to (list_1 h hq hz) (g' := fun s => some (ks ++ [z.1], s)) (fun s hs => by rw [if_neg (by simp [tst_n hs hc])]))
theorem list_go {sg : List Sg} {one : Ps → PR} {m : List UInt8} {x y : Gs} {ks : List Int} {N : Nat} {z : Int × Gs} (h : listI sg one m x y ks N) (hq : isG sg y 4 m = false) (hz : nodP sg y one z) (hc : isG sg z.2 4 [44] = true) :
    ∃ M, N = M + 1 ∧ listI sg one m x (gAdv z.2) (ks ++ [z.1]) M := by
  obtain ⟨M, rfl⟩ := list_pos h
  have k1 := rest_adv (g' := listR sg one m M (ks ++ [z.1])) (list_1 h hq hz) (by omega) hc (fun s hs ht => by rw [if_pos (show isM sg s [44] = true from ht)])
  have e := nod_dp hz
  obtain ⟨h1, hN, hk⟩ := h
  refine ⟨M, rfl, k1, ?_, ?_⟩
  · simp only [gAdv]; omega
  · simp only [gAdv, List.length_append, List.length_cons, List.length_nil]; omega
theorem call_all {sg : List Sg} {val : Ps → PR} {x : Gs} {k : Int} {l : List Int × Gs} (hx : gsOk sg x) (hl : resP sg (gTake sg x [40]) (listR sg val [41] (sg.length + 1) []) l) (hll : l.1.length ≤ 3001) :
    nodP sg x (callR sg val k) (gCloseK sg l.2 [41], gClose sg l.2 [41] ⟨5, [], k :: l.1, false⟩) := by
  have k1 := rest_take (g' := fun s => (listR sg val [41] (sg.length + 1) [k] s).bind fun p => closeR sg [41] ⟨5, [], p.1, false⟩ p.2) (rest_0 (f := callR sg val k) hx) (fun _ _ => rfl)
  have k2 := rest_res (k := fun ks s => closeR sg [41] ⟨5, [], k :: ks, false⟩ s) k1 hl (fun s _ => by
    rw [show ([k] : List Int) = [k] ++ [] from rfl, listR_pre]
    cases listR sg val [41] (sg.length + 1) [] s <;> rfl)
  have hw : nodB ⟨5, [], k :: l.1, false⟩ := ⟨by simp, by simp; omega⟩
  refine ⟨rest_close k2 hw, fun hb => ?_⟩
  have := (close_nod (m := [41]) hl.1 hw).2 hb
  have e1 := hl.2.2.1
  have e2 := (take_step (m := [40]) hx).1.2.2.1
  simp only at this ⊢
  omega
end Go.My
end
section
set_option linter.unusedVariables false
set_option linter.unusedSimpArgs false
namespace Go.My
open Go.Eng
def chF (sg : List Sg) (n l N : Nat) (t : List UInt8) (ks : List Int) : Ps → PR := chnR sg l (pE sg n (.chain (l + 1))) N t ks
def chO (sg : List Sg) (n l : Nat) (x y : Gs) (k : Int) (N : Nat) : Prop :=
  restP sg x (pE sg (n + 1) (.chain l)) y (chF sg n l N [] [k]) 0 ∧ 2 * ((sg.length : Int) - y.pos) + 3 ≤ N ∧ (y.bad = false → x.pos < y.pos)
def chN (sg : List Sg) (n l : Nat) (m : List UInt8) (x y : Gs) (ks : List Int) (N : Nat) : Prop :=
  restP sg x (pE sg (n + 1) (.chain l)) y (chF sg n l N m ks) 0 ∧ (2 * ((sg.length : Int) - y.pos) + 4 ≤ N ∨ (isG sg y 4 m = true ∧ 2 * ((sg.length : Int) - y.pos) + 3 ≤ N)) ∧ (ks.length : Int) ≤ y.pos + 1 ∧ (y.bad = false → x.pos < y.pos)
theorem ch_6 {sg : List Sg} {x : Gs} {n : Nat} {z : Int × Gs} (h1 : nodP sg x (pE sg n .fin) z) : nodP sg x (pE sg (n + 1) (.chain 6)) z := h1
theorem ch_0 {sg : List Sg} {x : Gs} {n l : Nat} {z : Int × Gs} (h : gsOk sg x) (hl : l ≠ 6) (h1 : nodP sg x (pE sg n (.chain (l + 1))) z) : chO sg n l x z.2 z.1 (2 * sg.length + 4) := by
  have k1 := rest_to (rest_0 (f := pE sg (n + 1) (.chain l)) h) (g' := fun s => (pE sg n (.chain (l + 1)) s).bind fun p => chnR sg l (pE sg n (.chain (l + 1))) (2 * sg.length + 4) [] [p.1] p.2) (fun s _ => by rw [pE_ch, if_neg hl])
  have k2 := rest_res (k := fun k s => chF sg n l (2 * sg.length + 4) [] [k] s) k1 h1.1 (fun _ _ => rfl)
  have := k2.1.1
  exact ⟨k2, by omega, h1.2⟩
def chMG (sg : List Sg) (l : Nat) (g : Gs) : List UInt8 := ((marksAt l).find? fun m => isG sg g 4 m).getD []
theorem chMG_f {sg : List Sg} {l : Nat} {g : Gs} {s : Ps} (hs : pur g = some s) : chMark sg l s = chMG sg l g := by
  unfold chMark chMG
  congr 2
  funext m
  exact (isG_f hs).symm
theorem chMG_t {sg : List Sg} {l : Nat} {g : Gs} (hb : g.bad = true) : chMG sg l g = [] := by
  unfold chMG
  rw [List.find?_eq_none.2 (by intro m _; rw [isG_t (pur_t hb) (by omega)]; simp)]; rfl
theorem marks_ne {l : Nat} {m : List UInt8} (h : m ∈ marksAt l) : m ≠ [] := by
  unfold marksAt at h
  split at h <;> simp at h <;> (first | (subst h; simp) | (rcases h with rfl | rfl <;> simp))
theorem chMG_is {sg : List Sg} {l : Nat} {g : Gs} (h : chMG sg l g ≠ []) : isG sg g 4 (chMG sg l g) = true ∧ chMG sg l g ∈ marksAt l := by
  unfold chMG at h ⊢
  cases hf : (marksAt l).find? fun m => isG sg g 4 m with
  | none => rw [hf] at h; exact (h rfl).elim
  | some m => exact ⟨by simpa using List.find?_some hf, by simpa using List.mem_of_find?_eq_some hf⟩
theorem isG_uniq {sg : List Sg} {g : Gs} {m m' : List UInt8} (h : isG sg g 4 m = true) (h' : isG sg g 4 m' = true) : m = m' := by
  simp [isG] at h h'; rw [← h.2, h'.2]
theorem chMG_of {sg : List Sg} {l : Nat} {g : Gs} {m : List UInt8} (hm : m ∈ marksAt l) (h : isG sg g 4 m = true) : chMG sg l g = m := by
  unfold chMG
  cases hf : (marksAt l).find? fun m => isG sg g 4 m with
  | none => exact (List.find?_eq_none.1 hf m hm (by simpa using h)).elim
  | some m' => exact (isG_uniq (by simpa using List.find?_some hf) h)
theorem ch_end {sg : List Sg} {n l : Nat} {x y : Gs} {k : Int} {N : Nat} (h : chO sg n l x y k N) (hm : chMG sg l y = []) : nodP sg x (pE sg (n + 1) (.chain l)) (k, y) := by
  obtain ⟨h1, hN, hb⟩ := h
  have := h1.1.1
  match N with
  | 0 => omega
  | N + 1 =>
    exact ⟨rest_done (rest_to h1 (g' := fun s => some (k, s)) (fun s hs => by rw [chF, chnR, if_neg (by simp), if_pos (by rw [chMG_f hs, hm])]; rfl)), hb⟩
theorem ch_in {sg : List Sg} {n l : Nat} {x y : Gs} {k : Int} {N : Nat} (h : chO sg n l x y k N) (hm : chMG sg l y ≠ []) : chN sg n l (chMG sg l y) x y [k] N := by
  obtain ⟨h1, hN, hb⟩ := h
  have := h1.1.1
  match N with
  | 0 => omega
  | N + 1 =>
    refine ⟨rest_to h1 (fun s hs => ?_), .inr ⟨(chMG_is hm).1, hN⟩, by simp; omega, hb⟩
    rw [chF, chF, chnR, chnR, if_neg (by simp), if_neg (by rw [chMG_f hs]; exact hm), if_neg (by rw [chMG_f hs]; simp)]
theorem ch_go {sg : List Sg} {n l : Nat} {m : List UInt8} {x y : Gs} {ks : List Int} {N : Nat} {z : Int × Gs} (hml : m ∈ marksAt l) (h : chN sg n l m x y ks N) (hq : isG sg y 4 m = true) (hz : nodP sg (gAdv y) (pE sg n (.chain (l + 1))) z) :
    ∃ M, N = M + 1 ∧ chN sg n l m x z.2 (ks ++ [z.1]) M := by
  obtain ⟨h1, hN, hk, hb⟩ := h
  have hp := h1.1.1
  have hN2 : 2 * ((sg.length : Int) - y.pos) + 3 ≤ N := by rcases hN with h | h <;> omega
  match N with
  | 0 => omega
  | M + 1 =>
    refine ⟨M, rfl, ?_⟩
    have hmg := chMG_of hml hq
    have k1 := rest_adv (g' := fun s => (pE sg n (.chain (l + 1)) s).bind fun p => chF sg n l M m (ks ++ [p.1]) p.2) h1 (by omega) hq (fun s hs ht => by
      rw [chF, chnR, if_neg (by rw [chMG_f hs, hmg]; simp), if_neg (by rw [chMG_f hs, hmg]; exact marks_ne hml), chMG_f hs, hmg]; rfl)
    have k2 := rest_res (k := fun k s => chF sg n l M m (ks ++ [k]) s) k1 hz.1 (fun _ _ => rfl)
    have e := nod_dp hz
    simp only [gAdv] at e
    have := h1.2.2.1
    refine ⟨k2, .inl (by omega), by simp; omega, fun hb2 => by omega⟩
theorem ch_put {sg : List Sg} {n l : Nat} {m : List UInt8} {x y : Gs} {ks : List Int} {N : Nat} (hml : m ∈ marksAt l) (hs : sgB sg) (h : chN sg n l m x y ks N) (hq : isG sg y 4 m = false) :
    ∃ M, N = M + 1 ∧ chO sg n l x (gAdd y ⟨7, m, ks, false⟩) (gAddK y) M := by
  obtain ⟨h1, hN, hk, hb⟩ := h
  have hp := h1.1.1
  have hN2 : 2 * ((sg.length : Int) - y.pos) + 4 ≤ N := by
    rcases hN with h | h
    · exact h
    · rw [hq] at h; cases h.1
  match N with
  | 0 => omega
  | M + 1 =>
    have hw : nodB ⟨7, m, ks, false⟩ := by
      refine ⟨?_, by have := hs.1; simp only; omega⟩
      simp only
      unfold marksAt at hml
      split at hml <;> simp at hml <;> (first | (subst hml; simp) | (rcases hml with rfl | rfl <;> simp))
    have k1 := rest_to h1 (g' := fun s => (putR ⟨7, m, ks, false⟩ s).bind fun p => chF sg n l M [] [p.1] p.2) (fun s hs => by
      rw [chF, chnR, if_pos ⟨marks_ne hml, fun e => by
        rw [chMG_f hs] at e
        have := (chMG_is (sg := sg) (l := l) (g := y) (by rw [e]; exact marks_ne hml)).1
        rw [e, hq] at this; cases this⟩]; rfl)
    have k2 := rest_res (k := fun k s => chF sg n l M [] [k] s) k1 (add_res h1.1 hw) (fun _ _ => rfl)
    obtain ⟨d1, d2, d3⟩ := @add_dp y ⟨7, m, ks, false⟩
    refine ⟨M, rfl, k2, by rw [d2]; omega, fun hb2 => by rw [d2]; exact hb (d3 hb2)⟩
def enI (sg : List Sg) (n : Nat) (x y : Gs) (k : Int) (N : Nat) : Prop :=
  restP sg x (pE sg (n + 1) .fin) y (endR sg (pE sg n .value) N k) 0 ∧ (y.bad = false → (sg.length : Int) - y.pos < N) ∧ (y.bad = false → x.pos < y.pos)
theorem en_0 {sg : List Sg} {x : Gs} {n : Nat} {z : Int × Gs} (h : gsOk sg x) (h1 : nodP sg x (pE sg n .base) z) : enI sg n x z.2 z.1 (sg.length + 1) := by
  have k1 := rest_res (k := fun k s => endR sg (pE sg n .value) (sg.length + 1) k s) (rest_0 (f := pE sg (n + 1) .fin) h) h1.1 (fun _ _ => rfl)
  have := k1.1.1
  exact ⟨k1, fun _ => by omega, h1.2⟩
theorem en_pos {sg : List Sg} {n : Nat} {x y : Gs} {k : Int} {N : Nat} (h : enI sg n x y k N) (hb : y.bad = false) : ∃ M, N = M + 1 := by
  have h1 := h.1.1.1; have h2 := h.2.1 hb
  match N with
  | 0 => omega
  | M + 1 => exact ⟨M, rfl⟩
theorem en_bad {sg : List Sg} {n : Nat} {x y : Gs} {k a : Int} {N : Nat} (h : enI sg n x y k N) (hb : y.bad = true) : nodP sg x (pE sg (n + 1) .fin) (a, y) :=
  ⟨rest_bad h.1 hb, fun hb2 => by simp only at hb2; rw [hb] at hb2; cases hb2⟩
theorem en_call {sg : List Sg} {n : Nat} {x y : Gs} {k : Int} {N : Nat} {w : Int × Gs} (h : enI sg n x y k N) (hq : isG sg y 4 [40] = true) (hw : nodP sg y (callR sg (pE sg n .value) k) w) :
    ∃ M, N = M + 1 ∧ enI sg n x w.2 w.1 M := by
  have hl := isG_lt hq (by omega)
  obtain ⟨M, rfl⟩ := en_pos h hl.1
  obtain ⟨h1, hN, hb⟩ := h
  have k1 := rest_to h1 (g' := fun s => (callR sg (pE sg n .value) k s).bind fun p => endR sg (pE sg n .value) M p.1 p.2) (fun s hs => by rw [endR, if_pos (tst_y hs hq)])
  have k2 := rest_res (k := fun k s => endR sg (pE sg n .value) M k s) k1 hw.1 (fun _ _ => rfl)
  have e := nod_dp hw
  have hN2 := hN hl.1; have hb2 := hb hl.1
  exact ⟨M, rfl, k2, fun hwb => by have := e.2.2.2 hwb; omega, fun hwb => by have := e.2.2.2 hwb; omega⟩
theorem en_dot {sg : List Sg} {n : Nat} {x y : Gs} {k : Int} {N : Nat} (hs : sgB sg) (h : enI sg n x y k N) (hp : isG sg y 4 [40] = false) (hq : isG sg y 4 [46] = true) (hn : nmG sg (gAdv y) 0 = true) :
    ∃ M, N = M + 1 ∧ enI sg n x (gPass (gAdd (gAdv y) ⟨6, (pkG sg (gAdv y) 0).text, [k], false⟩)) (gAddK (gAdv y)) M := by
  have hl := isG_lt hq (by omega)
  obtain ⟨M, rfl⟩ := en_pos h hl.1
  obtain ⟨h1, hN, hb⟩ := h
  have hw : nodB ⟨6, (pkG sg (gAdv y) 0).text, [k], false⟩ := ⟨pkG_text hs, by simp⟩
  have hn2 := nmG_lt hn
  have k1 := rest_adv (g' := fun s => (advR (putR ⟨6, (pkG sg (gAdv y) 0).text, [k], false⟩ s)).bind fun p => endR sg (pE sg n .value) M p.1 p.2) h1 (by omega) hq (fun s hs ht => by
    obtain ⟨hb0, rfl⟩ := pur_some.1 hs
    rw [endR, if_neg (by simp [tst_n hs hp]), if_pos (show isM sg _ [46] = true from ht)]
    have e1 : nmAt sg (y.pos + 1) = true := by
      have := nmG_f (sg := sg) (n := 0) (g := gAdv y) (pur_f hn2.1)
      rw [hn] at this; simpa [gAdv] using this.symm
    have e2 : (pkG sg (gAdv y) 0) = sgO sg (y.pos + 1) := by rw [pkG_f hn2.1]; simp [gAdv]
    rw [if_pos e1, e2])
  have hg := pass_nod k1.1 hw (fun _ => by omega)
  have k2 := rest_res (k := fun k s => endR sg (pE sg n .value) M k s) k1 hg.1 (fun _ _ => rfl)
  have e := nod_dp hg
  have hN2 := hN hl.1; have hb2 := hb hl.1
  simp only [gAdv] at e
  exact ⟨M, rfl, k2, fun hwb => by have := e.2.2.2 hwb; simp only [gAdv] at *; omega, fun hwb => by have := e.2.2.2 hwb; simp only [gAdv] at *; omega⟩
theorem en_dotB {sg : List Sg} {n : Nat} {x y : Gs} {k a : Int} {N : Nat} (h : enI sg n x y k N) (hp : isG sg y 4 [40] = false) (hq : isG sg y 4 [46] = true) (hn : nmG sg (gAdv y) 0 = false) :
    nodP sg x (pE sg (n + 1) .fin) (a, gBad (gAdv y)) := by
  have hl := isG_lt hq (by omega)
  obtain ⟨M, rfl⟩ := en_pos h hl.1
  obtain ⟨h1, hN, hb⟩ := h
  have k1 := rest_adv (g' := fun _ => none) h1 (by omega) hq (fun s hs ht => by
    obtain ⟨hb0, rfl⟩ := pur_some.1 hs
    rw [endR, if_neg (by simp [tst_n hs hp]), if_pos (show isM sg _ [46] = true from ht)]
    have e1 : nmAt sg (y.pos + 1) = false := by
      have := nmG_f (sg := sg) (n := 0) (g := gAdv y) (pur_f (by simpa [gAdv] using hb0))
      rw [hn] at this; simpa [gAdv] using this.symm
    rw [if_neg (by simp [e1])])
  exact ⟨rest_killB k1 (fun _ _ => rfl), fun hb2 => by simp [gBad] at hb2⟩
theorem en_end {sg : List Sg} {n : Nat} {x y : Gs} {k : Int} {N : Nat} (h : enI sg n x y k N) (hb : y.bad = false) (hp : isG sg y 4 [40] = false) (hq : isG sg y 4 [46] = false) : nodP sg x (pE sg (n + 1) .fin) (k, y) := by
  obtain ⟨M, rfl⟩ := en_pos h hb
  exact ⟨rest_done (rest_to h.1 (g' := fun s => some (k, s)) (fun s hs => by rw [endR, if_neg (by simp [tst_n hs hp]), if_neg (by simp [tst_n hs hq])])), h.2.2⟩
theorem kd_f {sg : List Sg} {g : Gs} {s : Ps} (hs : pur g = some s) : (pkG sg g 0).kind = (sgO sg s.pos).kind := by
  obtain ⟨h, rfl⟩ := pur_some.1 hs
  rw [pkG_f h]; simp
theorem kd_lt {sg : List Sg} {g : Gs} (h : (pkG sg g 0).kind ≠ 0) : g.bad = false ∧ g.pos < sg.length := by
  unfold pkG at h
  split at h
  · simp [sg00] at h
  · rename_i hh; simp only [Int.add_zero] at hh; exact ⟨by cases hb : g.bad <;> simp_all, by omega⟩
theorem ba_name {sg : List Sg} {x : Gs} {n : Nat} (hs : sgB sg) (h : gsOk sg x) (hk : (pkG sg x 0).kind = 1) : nodP sg x (pE sg (n + 1) .base) (gNameK sg x, gNameN sg x) := by
  obtain ⟨a, b⟩ := nameN_nod hs h
  have e : (pur x).bind (pE sg (n + 1) .base) = (pur x).bind (nameR sg) := by
    cases hp : pur x with
    | none => rfl
    | some s => simp only [Option.bind_some]; rw [pE, if_pos (by rw [← kd_f hp]; exact hk)]
  obtain ⟨a1, a2, a3, a4, a5⟩ := a
  exact ⟨⟨a1, a2, a3, by rw [e]; exact a4, by rw [e]; exact a5⟩, b⟩
theorem ba_leaf {sg : List Sg} {x : Gs} {n : Nat} {k : Int} (hs : sgB sg) (h : gsOk sg x) (hk : (pkG sg x 0).kind = k) (hk2 : k = 2 ∨ k = 3) : nodP sg x (pE sg (n + 1) .base) (gAddK x, gLeaf sg x k false) := by
  have hl := kd_lt (sg := sg) (g := x) (by rw [hk]; omega)
  obtain ⟨a, b⟩ := leaf_nod (k := k) (b := false) hs h (fun _ => hl.2)
  have e : (pur x).bind (pE sg (n + 1) .base) = (pur x).bind (leafR sg k false) := by
    cases hp : pur x with
    | none => rfl
    | some s =>
      simp only [Option.bind_some]
      have := kd_f (sg := sg) hp
      rcases hk2 with rfl | rfl
      · rw [pE, if_neg (by omega), if_pos (by omega)]
      · rw [pE, if_neg (by omega), if_neg (by omega), if_pos (by omega)]
  obtain ⟨a1, a2, a3, a4, a5⟩ := a
  exact ⟨⟨a1, a2, a3, by rw [e]; exact a4, by rw [e]; exact a5⟩, b⟩
theorem ba_mk {sg : List Sg} {x : Gs} {s : Ps} {n : Nat} (hs : pur x = some s) (h1 : (pkG sg x 0).kind ≠ 1) (h2 : (pkG sg x 0).kind ≠ 2) (h3 : (pkG sg x 0).kind ≠ 3) : pE sg (n + 1) .base s =
    if isM sg s [91] then (listR sg (pE sg n .value) [93] (sg.length + 1) [] (adv s)).bind fun p => closeR sg [93] ⟨4, [], p.1, false⟩ p.2
    else if isM sg s [40] && arrow sg s then (listR sg (nameR sg) [41] (sg.length + 1) [] (adv s)).bind fun p => (wantM sg [41] p.2).bind fun s1 => (wantM sg [61, 62] s1).bind fun s2 => (pE sg n .pick s2).bind fun q => putR ⟨9, [], p.1 ++ [q.1], false⟩ q.2
    else if isM sg s [40] then (pE sg n .value (adv s)).bind fun p => closeR sg [41] ⟨11, [], [p.1], false⟩ p.2
    else none := by
  have := kd_f (sg := sg) hs
  rw [pE, if_neg (by omega), if_neg (by omega), if_neg (by omega)]
theorem ba_list {sg : List Sg} {x : Gs} {n : Nat} {l : List Int × Gs} (h : gsOk sg x) (h1 : (pkG sg x 0).kind ≠ 1) (h2 : (pkG sg x 0).kind ≠ 2) (h3 : (pkG sg x 0).kind ≠ 3) (hq : isG sg x 4 [91] = true)
    (hl : resP sg (gAdv x) (listR sg (pE sg n .value) [93] (sg.length + 1) []) l) (hll : l.1.length ≤ 3001) :
    nodP sg x (pE sg (n + 1) .base) (gCloseK sg l.2 [93], gClose sg l.2 [93] ⟨4, [], l.1, false⟩) := by
  have k1 := rest_adv (g' := fun s => (listR sg (pE sg n .value) [93] (sg.length + 1) [] s).bind fun p => closeR sg [93] ⟨4, [], p.1, false⟩ p.2) (rest_0 (f := pE sg (n + 1) .base) h) (by omega) hq
    (fun s hs ht => by rw [ba_mk hs h1 h2 h3, if_pos (show isM sg s [91] = true from ht)])
  have k2 := rest_res (k := fun ks s => closeR sg [93] ⟨4, [], ks, false⟩ s) k1 hl (fun _ _ => rfl)
  have hw : nodB ⟨4, [], l.1, false⟩ := ⟨by simp, by simp only; omega⟩
  refine ⟨rest_close k2 hw, fun hb => ?_⟩
  have := (close_nod (m := [93]) hl.1 hw).2 hb
  have e1 := hl.2.2.1
  simp only [gAdv] at this e1 ⊢
  omega
theorem ba_par {sg : List Sg} {x : Gs} {n : Nat} {z : Int × Gs} (h : gsOk sg x) (h1 : (pkG sg x 0).kind ≠ 1) (h2 : (pkG sg x 0).kind ≠ 2) (h3 : (pkG sg x 0).kind ≠ 3) (hn : isG sg x 4 [91] = false) (hq : isG sg x 4 [40] = true)
    (ha : ∀ s, pur x = some s → arrow sg s = false) (hz : nodP sg (gAdv x) (pE sg n .value) z) :
    nodP sg x (pE sg (n + 1) .base) (gCloseK sg z.2 [41], gClose sg z.2 [41] ⟨11, [], [z.1], false⟩) := by
  have k1 := rest_adv (g' := fun s => (pE sg n .value s).bind fun p => closeR sg [41] ⟨11, [], [p.1], false⟩ p.2) (rest_0 (f := pE sg (n + 1) .base) h) (by omega) hq
    (fun s hs ht => by rw [ba_mk hs h1 h2 h3, if_neg (by simp [tst_n hs hn]), if_neg (by simp [ha s hs]), if_pos (show isM sg s [40] = true from ht)])
  have k2 := rest_res (k := fun k s => closeR sg [41] ⟨11, [], [k], false⟩ s) k1 hz.1 (fun _ _ => rfl)
  have hw : nodB ⟨11, [], [z.1], false⟩ := ⟨by simp, by simp⟩
  refine ⟨rest_close k2 hw, fun hb => ?_⟩
  have := (close_nod (m := [41]) hz.1.1 hw).2 hb
  have e1 := hz.1.2.2.1
  simp only [gAdv] at this e1 ⊢
  omega
theorem ba_none {sg : List Sg} {x : Gs} {n : Nat} {a : Int} (h : gsOk sg x) (h1 : (pkG sg x 0).kind ≠ 1) (h2 : (pkG sg x 0).kind ≠ 2) (h3 : (pkG sg x 0).kind ≠ 3) (hn : isG sg x 4 [91] = false) (hq : isG sg x 4 [40] = false) :
    nodP sg x (pE sg (n + 1) .base) (a, gBad x) :=
  ⟨rest_killB (rest_0 h) (fun s hs => by rw [ba_mk hs h1 h2 h3, if_neg (by simp [tst_n hs hn]), if_neg (by simp [tst_n hs hq]), if_neg (by simp [tst_n hs hq])]), fun hb => by simp [gBad] at hb⟩
def fnR (sg : List Sg) (n : Nat) (s : Ps) : PR := (wantM sg [40] s).bind fun s0 => (listR sg (nameR sg) [41] (sg.length + 1) [] s0).bind fun p => (wantM sg [41] p.2).bind fun s1 => (wantM sg [61, 62] s1).bind fun s2 => (pE sg n .pick s2).bind fun q => putR ⟨9, [], p.1 ++ [q.1], false⟩ q.2
theorem ba_fn {sg : List Sg} {x : Gs} {n : Nat} {z : Int × Gs} (h1 : (pkG sg x 0).kind ≠ 1) (h2 : (pkG sg x 0).kind ≠ 2) (h3 : (pkG sg x 0).kind ≠ 3) (hn : isG sg x 4 [91] = false) (hq : isG sg x 4 [40] = true)
    (ha : ∀ s, pur x = some s → arrow sg s = true) (hz : nodP sg x (fnR sg n) z) : nodP sg x (pE sg (n + 1) .base) z := by
  have e : (pur x).bind (pE sg (n + 1) .base) = (pur x).bind (fnR sg n) := by
    cases hp : pur x with
    | none => rfl
    | some s =>
      simp only [Option.bind_some]
      rw [ba_mk hp h1 h2 h3, if_neg (by simp [tst_n hp hn]), if_pos (by simp [tst_y hp hq, ha s hp]), fnR, wantM, if_pos (tst_y hp hq)]; rfl
  obtain ⟨⟨a1, a2, a3, a4, a5⟩, b⟩ := hz
  exact ⟨⟨a1, a2, a3, by rw [e]; exact a4, by rw [e]; exact a5⟩, b⟩
theorem fn_all {sg : List Sg} {x : Gs} {n : Nat} {l : List Int × Gs} {z : Int × Gs} (h : gsOk sg x) (hl : resP sg (gTake sg x [40]) (listR sg (nameR sg) [41] (sg.length + 1) []) l) (hll : l.1.length ≤ 3001)
    (hz : nodP sg (gTake sg (gTake sg l.2 [41]) [61, 62]) (pE sg n .pick) z) : nodP sg x (fnR sg n) (gAddK z.2, gAdd z.2 ⟨9, [], l.1 ++ [z.1], false⟩) := by
  have k1 := rest_take (g' := fun s0 => (listR sg (nameR sg) [41] (sg.length + 1) [] s0).bind fun p => (wantM sg [41] p.2).bind fun s1 => (wantM sg [61, 62] s1).bind fun s2 => (pE sg n .pick s2).bind fun q => putR ⟨9, [], p.1 ++ [q.1], false⟩ q.2) (rest_0 (f := fnR sg n) h) (fun _ _ => rfl)
  have k2 := rest_res (k := fun ks s => (wantM sg [41] s).bind fun s1 => (wantM sg [61, 62] s1).bind fun s2 => (pE sg n .pick s2).bind fun q => putR ⟨9, [], ks ++ [q.1], false⟩ q.2) k1 hl (fun _ _ => rfl)
  have k3 := rest_take (g' := fun s1 => (wantM sg [61, 62] s1).bind fun s2 => (pE sg n .pick s2).bind fun q => putR ⟨9, [], l.1 ++ [q.1], false⟩ q.2) k2 (fun _ _ => rfl)
  have k4 := rest_take (g' := fun s2 => (pE sg n .pick s2).bind fun q => putR ⟨9, [], l.1 ++ [q.1], false⟩ q.2) k3 (fun _ _ => rfl)
  have k5 := rest_res (k := fun k s => putR ⟨9, [], l.1 ++ [k], false⟩ s) k4 hz.1 (fun _ _ => rfl)
  have hw : nodB ⟨9, [], l.1 ++ [z.1], false⟩ := ⟨by simp, by simp; omega⟩
  refine ⟨rest_add k5 hw, fun hb => ?_⟩
  obtain ⟨d1, d2, d3⟩ := @add_dp z.2 ⟨9, [], l.1 ++ [z.1], false⟩
  have e1 := nod_dp hz
  have e2 := k4.2.2.1
  have := e1.2.2.2 (d3 hb)
  simp only [d2]; omega
end Go.My
end
section
set_option linter.unusedVariables false
set_option linter.unusedSimpArgs false
namespace Go.My
open Go.Eng Go.Proofs
variable {G : GInv}
abbrev iG {α : Type} (i : Int × Int × Bool × List Nd × α × Nat) : Gs := ⟨i.1, i.2.1, i.2.2.1, i.2.2.2.1⟩
def vP (r n : Nat) (s : ST) (g : Gs) : Prop := (rOk s g ∧ g.deep ≤ 20) ∧ 12 * ((s.sg.length : Int) - g.pos) + r ≤ n
def wP (r n : Nat) (s : ST) (g : Gs) : Prop := (rOk s g ∧ (g.bad = false → g.deep ≤ 20)) ∧ 12 * ((s.sg.length : Int) - g.pos) + r ≤ n
def s_rVal (n : Nat) : Sig := { X := ST × Int × Int × Bool × List Nd, args := fun x => [rdG x.1 (xg x)], pre := fun x => vP 11 n x.1 (xg x), Y := Int × Int × Int × Bool × List Nd, post := fun x y => nodP x.1.sg (xg x) (pE x.1.sg n .value) (yS y), res := fun x y => .int .i64 y.1, outs := fun x y => [rdG x.1 (yG y.2)], keep := true }
def s_rPick (n : Nat) : Sig := { X := ST × Int × Int × Bool × List Nd, args := fun x => [rdG x.1 (xg x)], pre := fun x => vP 10 n x.1 (xg x), Y := Int × Int × Int × Bool × List Nd, post := fun x y => nodP x.1.sg (xg x) (pE x.1.sg n .pick) (yS y), res := fun x y => .int .i64 y.1, outs := fun x y => [rdG x.1 (yG y.2)], keep := true }
def s_rCh (n : Nat) : Sig := { X := ST × Int × Int × Bool × List Nd × Int, args := fun x => [rdG x.1 (xh x), .int .i64 x.2.2.2.2.2], pre := fun x => wP (9 - x.2.2.2.2.2.toNat) n x.1 (xh x) ∧ 0 ≤ x.2.2.2.2.2 ∧ x.2.2.2.2.2 ≤ 6, Y := Int × Int × Int × Bool × List Nd, post := fun x y => nodP x.1.sg (xh x) (pE x.1.sg n (.chain x.2.2.2.2.2.toNat)) (yS y), res := fun x y => .int .i64 y.1, outs := fun x y => [rdG x.1 (yG y.2), .top], keep := true }
def s_rEnd (n : Nat) : Sig := { X := ST × Int × Int × Bool × List Nd, args := fun x => [rdG x.1 (xg x)], pre := fun x => wP 2 n x.1 (xg x), Y := Int × Int × Int × Bool × List Nd, post := fun x y => nodP x.1.sg (xg x) (pE x.1.sg n .fin) (yS y), res := fun x y => .int .i64 y.1, outs := fun x y => [rdG x.1 (yG y.2)], keep := true }
def s_rBase (n : Nat) : Sig := { X := ST × Int × Int × Bool × List Nd, args := fun x => [rdG x.1 (xg x)], pre := fun x => wP 1 n x.1 (xg x), Y := Int × Int × Int × Bool × List Nd, post := fun x y => nodP x.1.sg (xg x) (pE x.1.sg n .base) (yS y), res := fun x y => .int .i64 y.1, outs := fun x y => [rdG x.1 (yG y.2)], keep := true }
structure rAll (G : GInv) (n : Nat) : Prop where
  val : Contract G Go.Proofs.Tryz.prog 164 (s_rVal n)
  pick : Contract G Go.Proofs.Tryz.prog 180 (s_rPick n)
  chain : Contract G Go.Proofs.Tryz.prog 190 (s_rCh n)
  fin : Contract G Go.Proofs.Tryz.prog 193 (s_rEnd n)
  base : Contract G Go.Proofs.Tryz.prog 196 (s_rBase n)
theorem ex_pred {I : Nat → Prop} {N : Nat} (h : ∃ M, N = M + 1 ∧ I M) : I (N - 1) ∧ N - 1 < N := by
  obtain ⟨M, rfl, h⟩ := h
  exact ⟨by simpa using h, by omega⟩
theorem skip_n {sg : List Sg} {g : Gs} {m : List UInt8} (h : isG sg g 4 m = false) : gSkip sg g m = g := by simp [gSkip, h]
theorem skip_yG {sg : List Sg} {g : Gs} {m : List UInt8} (h : isG sg g 4 m = true) : gSkip sg g m = gAdv g := by simp [gSkip, h]
theorem nod_b {α : Type} {sg : List Sg} {x : Gs} {f : Ps → Option (α × Ps)} {y : α × Gs} (h : nodP sg x f y) (hb : y.2.bad = false) : x.bad = false := ((nod_dp h).2.2.2 hb).1
abbrev lisJ (sg : List Sg) (one : Ps → PR) (m : List UInt8) (x y : Gs) (ks : List Int) (N : Nat) : Prop := listI sg one m x y ks N ∧ (y.bad = false → x.bad = false)
theorem list_out2 {sg : List Sg} {one : Ps → PR} {m : List UInt8} {x y : Gs} {ks : List Int} {N : Nat} {z : Int × Gs} (h : lisJ sg one m x y ks N) (hz : nodP sg y one z) (hq : isG sg y 4 m = false) (hc : isG sg z.2 4 [44] = false) :
    resP sg x (listR sg one m (sg.length + 1) []) (ks ++ [z.1], gSkip sg z.2 [44]) := by rw [skip_n hc]; exact list_out h.1 hq hz hc
theorem list_go2 {sg : List Sg} {one : Ps → PR} {m : List UInt8} {x y : Gs} {ks : List Int} {N : Nat} {z : Int × Gs} (h : lisJ sg one m x y ks N) (hz : nodP sg y one z) (hq : isG sg y 4 m = false) (hc : isG sg z.2 4 [44] = true) :
    lisJ sg one m x (gSkip sg z.2 [44]) (ks ++ [z.1]) (N - 1) ∧ N - 1 < N := by
  rw [skip_yG hc]
  obtain ⟨a, b⟩ := ex_pred (list_go h.1 hq hz hc)
  exact ⟨⟨a, fun hb => h.2 (nod_b hz hb)⟩, b⟩
theorem gs_eta (g : Gs) : (⟨g.pos, g.deep, g.bad, g.nodes⟩ : Gs) = g := rfl
theorem list_outN {sg : List Sg} {m : List UInt8} {x y : Gs} {ks : List Int} {N : Nat} (hs : sgB sg) (h : lisJ sg (nameR sg) m x y ks N) (hq : isG sg y 4 m = false) (hc : isG sg (gNameN sg y) 4 [44] = false) :
    resP sg x (listR sg (nameR sg) m (sg.length + 1) []) (ks ++ [gNameK sg y], gSkip sg (gNameN sg y) [44]) := list_out2 h (nameN_nod hs h.1.1.1) hq hc
theorem list_goN {sg : List Sg} {m : List UInt8} {x y : Gs} {ks : List Int} {N : Nat} (hs : sgB sg) (h : lisJ sg (nameR sg) m x y ks N) (hq : isG sg y 4 m = false) (hc : isG sg (gNameN sg y) 4 [44] = true) :
    lisJ sg (nameR sg) m x (gSkip sg (gNameN sg y) [44]) (ks ++ [gNameK sg y]) (N - 1) ∧ N - 1 < N := list_go2 h (nameN_nod hs h.1.1.1) hq hc
theorem list_okN {s : ST} {m : List UInt8} {x y : Gs} {ks : List Int} {N : Nat} (hr : sgB s.sg) (h : lisJ s.sg (nameR s.sg) m x y ks N) : rOk s (gNameN s.sg y) := ⟨hr, nod_ok (nameN_nod hr h.1.1.1)⟩
theorem list_bd {s : ST} {one : Ps → PR} {m : List UInt8} {x y : Gs} {ks : List Int} {N : Nat} (hr : sgB s.sg) (h : lisJ s.sg one m x y ks N) : ks.length ≤ 3000 := by
  have h1 := h.1.2.2; have h2 := h.1.1.1.1.2; have h3 := hr.1; omega
theorem list_vP {s : ST} {one : Ps → PR} {m : List UInt8} {x y : Gs} {ks : List Int} {N n : Nat} (hr : sgB s.sg) (h : lisJ s.sg one m x y ks N) (hb : y.bad = false) (hd : x.bad = false → x.deep ≤ 20) (hn : 12 * ((s.sg.length : Int) - x.pos) + 11 ≤ n) : vP 11 n s y := by
  have h1 := h.1.1; have h2 := hd (h.2 hb); have h3 := h1.2.1; have h4 := h1.2.2.1
  exact ⟨⟨⟨hr, h1.1⟩, by omega⟩, by omega⟩
theorem list_ok {s : ST} {one : Ps → PR} {m : List UInt8} {x y : Gs} {ks : List Int} {N : Nat} (hr : sgB s.sg) (h : lisJ s.sg one m x y ks N) : rOk s y := ⟨hr, h.1.1.1⟩
theorem call_wP {s : ST} {x : Gs} {n : Nat} (h1 : rOk s x) (h2 : x.bad = false → x.deep ≤ 20) (h3 : 12 * ((s.sg.length : Int) - x.pos) + 11 ≤ n) : wP 11 n s (gTake s.sg x [40]) := by
  obtain ⟨⟨a1, a2, a3, a4⟩, a5⟩ := take_step (m := [40]) h1.2
  refine ⟨⟨⟨h1.1, a1⟩, fun hb => ?_⟩, by omega⟩
  rw [a2]
  refine h2 ?_
  cases hx : x.bad with
  | false => rfl
  | true => rw [pur_t hx, pur_f hb] at a4; cases a4
theorem call_cl {s : ST} {x : Gs} {one : Ps → PR} {k : Int} {l : List Int × Gs} (h1 : rOk s x) (h : resP s.sg (gTake s.sg x [40]) (listR s.sg one [41] (s.sg.length + 1) []) l ∧ l.1.length ≤ 3001) : rOk s l.2 ∧ nodB ⟨5, [], [k] ++ l.1, false⟩ :=
  ⟨⟨h1.1, h.1.1⟩, by simp, by have := h.2; simp; omega⟩
theorem call_nod {sg : List Sg} {x : Gs} {one : Ps → PR} {k : Int} {l : List Int × Gs} (hx : gsOk sg x) (h : resP sg (gTake sg x [40]) (listR sg one [41] (sg.length + 1) []) l ∧ l.1.length ≤ 3001) :
    nodP sg x (callR sg one k) (gCloseK sg l.2 [41], gClose sg l.2 [41] ⟨5, [], [k] ++ l.1, false⟩) := call_all hx h.1 h.2
attribute [local irreducible] pE listR callR fnR nodP resP gsOk gTake gClose gAdd gPass gLeaf gSkip gNameN gNameK gAddK gCloseK pkG isG nmG
def s_rListV (n : Nat) : Sig := { X := ST × Int × Int × Bool × List Nd × List UInt8, args := fun x => [rdG x.1 (xh x), .str x.2.2.2.2.2, .top], pre := fun x => wP 11 n x.1 (xh x), Y := List Int × Int × Int × Bool × List Nd, post := fun x y => resP x.1.sg (xh x) (listR x.1.sg (pE x.1.sg n .value) x.2.2.2.2.2 (x.1.sg.length + 1) []) (yS y) ∧ y.1.length ≤ 3001, res := fun x y => oints y.1, outs := fun x y => [rdG x.1 (yG y.2), .top, .top], keep := true, caps := [(2, .yield 164, 0)] }
def i_rListV (n : Nat) (x : ST × Int × Int × Bool × List Nd × List UInt8) : LS := { ι := Int × Int × Bool × List Nd × List Int × Nat, inv := fun i => listI x.1.sg (pE x.1.sg n .value) x.2.2.2.2.2 (xh x) (iG i) i.2.2.2.2.1 i.2.2.2.2.2 ∧ (i.2.2.1 = false → x.2.2.2.1 = false), regs := fun i => [(0, rdG x.1 (iG i)), (1, .str x.2.2.2.2.2), (7, oints i.2.2.2.2.1)], als := [], meas := fun i => i.2.2.2.2.2, clos := [(2, .yield 164, 0)] }
set_option maxHeartbeats 4000000 in
theorem rListV_ok (n : Nat) (h : rAll G n) : Contract G Tryz.prog 138 (s_rListV n) :=
  vcFun_okP [(166, 0, s_rIs), (163, 0, s_rSkip), (164, 0, (s_rVal n))] [(45, ⟨Int,intA⟩)] false (fun x => [(2, i_rListV n x)]) Tryz.func138 rfl (by decide) ⟨rIs_ok, rSkip_ok, h.val, trivial⟩ (fun (x : ST × Int × Int × Bool × List Nd × List UInt8) => True ∧ (∃ (i : Int × Int × Bool × List Nd × List Int × Nat), (listI x.1.sg (pE x.1.sg n NT.value) x.2.2.2.2.2 (xh x) (iG i) i.2.2.2.2.1 i.2.2.2.2.2 ∧ (i.2.2.1 = false → x.2.2.2.1 = false)) ∧ ((sgs x.1.sg = sgs x.1.sg ∧ x.1.z = x.1.z ∧ (xh x).pos = (iG i).pos ∧ (xh x).deep = (iG i).deep ∧ (xh x).bad = (iG i).bad ∧ onds (xh x).nodes = onds (iG i).nodes ∧ mbs x.1.ms = mbs x.1.ms ∧ x.2.2.2.2.2 = x.2.2.2.2.2 ∧ i.2.2.2.2.1 = [] ∧ True) ∧ True) ∧ True ∧ True) ∧ ∀ (i : Int × Int × Bool × List Nd × List Int × Nat), listI x.1.sg (pE x.1.sg n NT.value) x.2.2.2.2.2 (xh x) (iG i) i.2.2.2.2.1 i.2.2.2.2.2 ∧ (i.2.2.1 = false → x.2.2.2.1 = false) → bcase (!(iG i).bad) (cA s_rIs [rdG x.1 (iG i), .str x.2.2.2.2.2] fun x_1 y => bcase (!isG x_1.1.sg (xh x_1) (4 : Int) x_1.2.2.2.2.2) (cA (s_rVal n) [rdG x_1.1 (xh x_1)] fun x_2 y => ∃ (x_3 : Int), y.1 = x_3 ∧ ∃ (zs : List Int), oints [x_3] = oints zs ∧ leafy intA ∧ room (List.length i.2.2.2.2.1 + List.length zs) (8 : Nat) ∧ cA s_rSkip [rdG x_2.1 (yG y.2), .str #[(44 : UInt8)].toList] fun x_4 y => bcase (!isG x_4.1.sg (xh x_4) (4 : Int) x_4.2.2.2.2.2) (rA (s_rListV n) x [oints (i.2.2.2.2.1 ++ zs), rdG x_4.1 (gSkip x_4.1.sg (xh x_4) x_4.2.2.2.2.2), .top, .top]) (∃ (i' : Int × Int × Bool × List Nd × List Int × Nat), (listI x.1.sg (pE x.1.sg n NT.value) x.2.2.2.2.2 (xh x) (iG i') i'.2.2.2.2.1 i'.2.2.2.2.2 ∧ (i'.2.2.1 = false → x.2.2.2.1 = false)) ∧ i'.2.2.2.2.2 < i.2.2.2.2.2 ∧ ((sgs x_4.1.sg = sgs x.1.sg ∧ x_4.1.z = x.1.z ∧ (gSkip x_4.1.sg (xh x_4) x_4.2.2.2.2.2).pos = (iG i').pos ∧ (gSkip x_4.1.sg (xh x_4) x_4.2.2.2.2.2).deep = (iG i').deep ∧ (gSkip x_4.1.sg (xh x_4) x_4.2.2.2.2.2).bad = (iG i').bad ∧ onds (gSkip x_4.1.sg (xh x_4) x_4.2.2.2.2.2).nodes = onds (iG i').nodes ∧ mbs x_4.1.ms = mbs x.1.ms ∧ x.2.2.2.2.2 = x.2.2.2.2.2 ∧ oints (i.2.2.2.2.1 ++ zs) = oints i'.2.2.2.2.1 ∧ True) ∧ True) ∧ True ∧ True)) (rA (s_rListV n) x [oints i.2.2.2.2.1, rdG x_1.1 (xh x_1), .top, .top])) (rA (s_rListV n) x [oints i.2.2.2.2.1, rdG x.1 (iG i), .top, .top])) (fun x => by kernel_rfl) fun (x : ST × Int × Int × Bool × List Nd × List UInt8) (hx : wP 11 n x.1 (xh x)) => (by
  dsimp only [cA, mbs, ndA_e, oints, onds, rA, rdG, s_rIs, s_rListV, s_rSkip, s_rVal, sgA_e, sgs, hndL, hnd1, mvL, lnL, mvE, lnE]
  obtain ⟨s, p, d, b, ns, e⟩ := x; dsimp only [xg, xh] at hx ⊢
  obtain ⟨⟨h1, h2⟩, h3⟩ := hx
  (repeat' first | (with_reducible first | rfl | exact True.intro | apply inR_i64 | apply And.intro | ((first | apply bcase_dec | apply bcase_bne | apply bcase_beq | apply bcase_not) <;> intro _)) | (apply bcase_intro <;> intro _) | apply sl_eq | refine ex_flip () ?_ ?_ | ((first | apply ex_flip10 | apply ex_flip9 | apply ex_flip8 | apply ex_flip7 | apply ex_flip6 | apply ex_flip5 | apply ex_flip4 | apply ex_flip3 | apply ex_flip2) <;> try dsimp only) | apply ex_flip | (refine Prod.forall.2 ?_; intro _; try dsimp only) | (intro _; try dsimp only))
  all_goals (try dsimp only [xg, xh, yG, yS, iG] at *)
  all_goals (try simp only [gs_eta] at *)
  all_goals first
    | (show Nat; skip)
    | rfl
    | assumption
    | exact list_0 h1.2
    | exact list_ok h1.1 (by assumption)
    | exact list_vP (x := ⟨p, d, b, ns⟩) h1.1 (by assumption) (by assumption) h2 h3
    | exact list_bad (And.left (by assumption)) (by assumption)
    | exact list_end (And.left (by assumption)) (by assumption)
    | exact list_out2 (by assumption) (by assumption) (by assumption) (by assumption)
    | exact (list_go2 (by assumption) (by assumption) (by assumption) (by assumption)).1.1
    | exact (list_go2 (by assumption) (by assumption) (by assumption) (by assumption)).1.2 (by assumption)
    | exact ⟨h1.1, (nod_ok (by assumption))⟩
    | (have hq := list_bd h1.1 (show lisJ _ _ _ _ _ _ _ by assumption); (try simp only [room, List.length_append, List.length_cons, List.length_nil]); omega)
    | skip
  all_goals first
    | exact (list_go2 (by assumption) (by assumption) (by assumption) (by assumption)).2
    | skip)
def s_rListN  : Sig := { X := ST × Int × Int × Bool × List Nd × List UInt8, args := fun x => [rdG x.1 (xh x), .str x.2.2.2.2.2, .top], pre := fun x => rOk x.1 (xh x), Y := List Int × Int × Int × Bool × List Nd, post := fun x y => resP x.1.sg (xh x) (listR x.1.sg (nameR x.1.sg) x.2.2.2.2.2 (x.1.sg.length + 1) []) (yS y) ∧ y.1.length ≤ 3001, res := fun x y => oints y.1, outs := fun x y => [rdG x.1 (yG y.2), .top, .top], keep := true, caps := [(2, .yield 139, 0)] }
def i_rListN  (x : ST × Int × Int × Bool × List Nd × List UInt8) : LS := { ι := Int × Int × Bool × List Nd × List Int × Nat, inv := fun i => listI x.1.sg (nameR x.1.sg) x.2.2.2.2.2 (xh x) (iG i) i.2.2.2.2.1 i.2.2.2.2.2 ∧ (i.2.2.1 = false → x.2.2.2.1 = false), regs := fun i => [(0, rdG x.1 (iG i)), (1, .str x.2.2.2.2.2), (7, oints i.2.2.2.2.1)], als := [], meas := fun i => i.2.2.2.2.2, clos := [(2, .yield 139, 0)] }
theorem rListN_ok  : Contract G Tryz.prog 138 s_rListN :=
  vcFun_okP [(166, 0, s_rIs), (163, 0, s_rSkip), (139, 0, s_rNameN)] [(45, ⟨Int,intA⟩)] false (fun x => [(2, i_rListN  x)]) Tryz.func138 rfl (by decide) ⟨rIs_ok, rSkip_ok, rNameN_ok, trivial⟩ (fun (x : ST × Int × Int × Bool × List Nd × List UInt8) => True ∧ (∃ (i : Int × Int × Bool × List Nd × List Int × Nat), (listI x.1.sg (nameR x.1.sg) x.2.2.2.2.2 (xh x) (iG i) i.2.2.2.2.1 i.2.2.2.2.2 ∧ (i.2.2.1 = false → x.2.2.2.1 = false)) ∧ ((sgs x.1.sg = sgs x.1.sg ∧ x.1.z = x.1.z ∧ (xh x).pos = (iG i).pos ∧ (xh x).deep = (iG i).deep ∧ (xh x).bad = (iG i).bad ∧ onds (xh x).nodes = onds (iG i).nodes ∧ mbs x.1.ms = mbs x.1.ms ∧ x.2.2.2.2.2 = x.2.2.2.2.2 ∧ i.2.2.2.2.1 = [] ∧ True) ∧ True) ∧ True ∧ True) ∧ ∀ (i : Int × Int × Bool × List Nd × List Int × Nat), listI x.1.sg (nameR x.1.sg) x.2.2.2.2.2 (xh x) (iG i) i.2.2.2.2.1 i.2.2.2.2.2 ∧ (i.2.2.1 = false → x.2.2.2.1 = false) → bcase (!(iG i).bad) (cA s_rIs [rdG x.1 (iG i), .str x.2.2.2.2.2] fun x_1 y => bcase (!isG x_1.1.sg (xh x_1) (4 : Int) x_1.2.2.2.2.2) (cA s_rNameN [rdG x_1.1 (xh x_1)] fun x_2 y => ∃ (x_3 : Int), gNameK x_2.1.sg (xg x_2) = x_3 ∧ ∃ (zs : List Int), oints [x_3] = oints zs ∧ leafy intA ∧ room (List.length i.2.2.2.2.1 + List.length zs) (8 : Nat) ∧ cA s_rSkip [rdG x_2.1 (gNameN x_2.1.sg (xg x_2)), .str #[(44 : UInt8)].toList] fun x_4 y => bcase (!isG x_4.1.sg (xh x_4) (4 : Int) x_4.2.2.2.2.2) (rA s_rListN x [oints (i.2.2.2.2.1 ++ zs), rdG x_4.1 (gSkip x_4.1.sg (xh x_4) x_4.2.2.2.2.2), .top, .top]) (∃ (i' : Int × Int × Bool × List Nd × List Int × Nat), (listI x.1.sg (nameR x.1.sg) x.2.2.2.2.2 (xh x) (iG i') i'.2.2.2.2.1 i'.2.2.2.2.2 ∧ (i'.2.2.1 = false → x.2.2.2.1 = false)) ∧ i'.2.2.2.2.2 < i.2.2.2.2.2 ∧ ((sgs x_4.1.sg = sgs x.1.sg ∧ x_4.1.z = x.1.z ∧ (gSkip x_4.1.sg (xh x_4) x_4.2.2.2.2.2).pos = (iG i').pos ∧ (gSkip x_4.1.sg (xh x_4) x_4.2.2.2.2.2).deep = (iG i').deep ∧ (gSkip x_4.1.sg (xh x_4) x_4.2.2.2.2.2).bad = (iG i').bad ∧ onds (gSkip x_4.1.sg (xh x_4) x_4.2.2.2.2.2).nodes = onds (iG i').nodes ∧ mbs x_4.1.ms = mbs x.1.ms ∧ x.2.2.2.2.2 = x.2.2.2.2.2 ∧ oints (i.2.2.2.2.1 ++ zs) = oints i'.2.2.2.2.1 ∧ True) ∧ True) ∧ True ∧ True)) (rA s_rListN x [oints i.2.2.2.2.1, rdG x_1.1 (xh x_1), .top, .top])) (rA s_rListN x [oints i.2.2.2.2.1, rdG x.1 (iG i), .top, .top])) (fun x => by kernel_rfl) fun (x : ST × Int × Int × Bool × List Nd × List UInt8) (hx : rOk x.1 (xh x)) => (by
  dsimp only [cA, mbs, ndA_e, oints, onds, rA, rdG, s_rIs, s_rListN, s_rNameN, s_rSkip, sgA_e, sgs, hndL, hnd1, mvL, lnL, mvE, lnE]
  obtain ⟨s, p, d, b, ns, e⟩ := x; dsimp only [xg, xh] at hx ⊢
  have h1 : rOk s ⟨p, d, b, ns⟩ := hx
  (repeat' first | (with_reducible first | rfl | exact True.intro | apply inR_i64 | apply And.intro | ((first | apply bcase_dec | apply bcase_bne | apply bcase_beq | apply bcase_not) <;> intro _)) | (apply bcase_intro <;> intro _) | apply sl_eq | refine ex_flip () ?_ ?_ | ((first | apply ex_flip10 | apply ex_flip9 | apply ex_flip8 | apply ex_flip7 | apply ex_flip6 | apply ex_flip5 | apply ex_flip4 | apply ex_flip3 | apply ex_flip2) <;> try dsimp only) | apply ex_flip | (refine Prod.forall.2 ?_; intro _; try dsimp only) | (intro _; try dsimp only))
  all_goals (try dsimp only [xg, xh, yG, yS, iG] at *)
  all_goals (try simp only [gs_eta] at *)
  all_goals first
    | (show Nat; skip)
    | rfl
    | assumption
    | exact list_0 h1.2
    | exact list_ok h1.1 (by assumption)
    | exact list_okN h1.1 (by assumption)
    | exact list_bad (And.left (by assumption)) (by assumption)
    | exact list_end (And.left (by assumption)) (by assumption)
    | exact list_outN h1.1 (by assumption) (by assumption) (by assumption)
    | exact (list_goN h1.1 (by assumption) (by assumption) (by assumption)).1.1
    | exact (list_goN h1.1 (by assumption) (by assumption) (by assumption)).1.2 (by assumption)
    | exact ⟨h1.1, (nod_ok (by assumption))⟩
    | (have hq := list_bd h1.1 (show lisJ _ _ _ _ _ _ _ by assumption); (try simp only [room, List.length_append, List.length_cons, List.length_nil]); omega)
    | skip
  all_goals first
    | exact (list_goN h1.1 (by assumption) (by assumption) (by assumption)).2
    | skip)
def s_rCall (n : Nat) : Sig := { X := ST × Int × Int × Bool × List Nd × Int, args := fun x => [rdG x.1 (xh x), .int .i64 x.2.2.2.2.2], pre := fun x => wP 11 n x.1 (xh x), Y := Int × Int × Int × Bool × List Nd, post := fun x y => nodP x.1.sg (xh x) (callR x.1.sg (pE x.1.sg n .value) x.2.2.2.2.2) (yS y), res := fun x y => .int .i64 y.1, outs := fun x y => [rdG x.1 (yG y.2), .top], keep := true }
theorem rCall_ok (n : Nat) (h : rAll G n) : Contract G Tryz.prog 181 (s_rCall n) :=
  vcFun_okP [(137, 0, s_rTake), (138, 164 + 1, (s_rListV n)), (165, 0, s_rClose)] [(45, ⟨Int,intA⟩)] false (fun x => []) Tryz.func181 rfl (by decide) ⟨rTake_ok, (rListV_ok n h), rClose_ok, trivial⟩ (fun (x : ST × Int × Int × Bool × List Nd × Int) => True ∧ cA s_rTake [rdG x.1 (xh x), .str #[(40 : UInt8)].toList] fun x_1 y => ∃ (x_2 : Int), x.2.2.2.2.2 = x_2 ∧ (True ∧ True) ∧ cA (s_rListV n) [rdG x_1.1 (gTake x_1.1.sg (xh x_1) x_1.2.2.2.2.2), .str #[(41 : UInt8)].toList, AV.clo (Fn.yield (164 : Nat)) [AV.al (0 : Nat)]] fun x_3 y => ∃ (zs : List Int), oints y.1 = oints zs ∧ leafy intA ∧ room (List.length [x_2] + List.length zs) (8 : Nat) ∧ cA s_rClose [rdG x_3.1 (yG y.2), .str #[(41 : UInt8)].toList, .agg [.int .i64 (5 : Int), .str #[].toList, oints ([x_2] ++ zs), .bool false]] fun x_4 y => rA (s_rCall n) x [.int .i64 (gCloseK x_4.1.sg (xh x_4) x_4.2.2.2.2.2.1), rdG x_4.1 (gClose x_4.1.sg (xh x_4) x_4.2.2.2.2.2.1 { kind := x_4.2.2.2.2.2.2.1, text := x_4.2.2.2.2.2.2.2.1, kids := x_4.2.2.2.2.2.2.2.2.1, blank := x_4.2.2.2.2.2.2.2.2.2 }), .top]) (fun x => by kernel_rfl) fun (x : ST × Int × Int × Bool × List Nd × Int) (hx : wP 11 n x.1 (xh x)) => (by
  dsimp only [cA, mbs, ndA_e, oints, onds, rA, rdG, s_rCall, s_rClose, s_rListV, s_rTake, sgA_e, sgs, hndL, hnd1, mvL, lnL, mvE, lnE]
  obtain ⟨s, p, d, b, ns, e⟩ := x; dsimp only [xg, xh] at hx ⊢
  obtain ⟨⟨h1, h2⟩, h3⟩ := hx
  (repeat' first | (with_reducible first | rfl | exact True.intro | apply inR_i64 | apply And.intro | ((first | apply bcase_dec | apply bcase_bne | apply bcase_beq | apply bcase_not) <;> intro _)) | (apply bcase_intro <;> intro _) | apply sl_eq | refine ex_flip () ?_ ?_ | ((first | apply ex_flip10 | apply ex_flip9 | apply ex_flip8 | apply ex_flip7 | apply ex_flip6 | apply ex_flip5 | apply ex_flip4 | apply ex_flip3 | apply ex_flip2) <;> try dsimp only) | apply ex_flip | (refine Prod.forall.2 ?_; intro _; try dsimp only) | (intro _; try dsimp only))
  all_goals (try dsimp only [xg, xh, yG, yS, iG] at *)
  all_goals (try simp only [gs_eta] at *)
  all_goals first
    | rfl
    | exact h1
    | exact call_wP h1 h2 h3
    | exact (call_cl (k := e) h1 (by assumption)).1
    | exact (call_cl h1 (by assumption)).2
    | (have hq := And.right (show resP _ _ _ _ ∧ _ by assumption); (try simp only [room, List.length_append, List.length_cons, List.length_nil]); omega)
    | exact call_nod h1.2 (by assumption)
    | skip)
end Go.My
end
