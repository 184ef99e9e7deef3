/- append. -/
import Derived.Test.YtinkjpfkemkhaaaDoorEngO
set_option linter.unusedVariables false
set_option linter.unusedSimpArgs false
namespace Go.Eng

theorem run_choose_cap {P : Program} {n c : Nat} {e : TypeId} {w : World} : ∃ k, n ≤ k ∧ (choose (.appendCap n c e)).run P w = .ok k { w with drawn := w.drawn + 1 } :=
  ⟨n + w.tape w.drawn (.appendCap n c e) % (2 ^ 63 - n), by omega, rfl⟩

theorem run_firstCells {P : Program} {w : World} {b off m cap sz : Nat} {arr : Array Value} {ty : TypeId} {fr : Nat × Nat} (hb : w.heap[b]? = some (.cells arr ty fr)) (hl : off + m * sz ≤ arr.size) :
    (Builtin.firstCells sz m (.slice (some (ad b off)) m cap)).run P w = .ok ((arr.toList.drop off).take (m * sz)).toArray w := by
  unfold Builtin.firstCells
  have := run_loadCells (P := P) (off := off) hb (cs := (arr.toList.drop off).take (m * sz)) (rest := (arr.toList.drop off).drop (m * sz)) (List.take_append_drop _ _).symm
  rw [show ((arr.toList.drop off).take (m * sz)).length = m * sz by simp; omega] at this
  exact this

def World.drewOne (w : World) : World := { w with drawn := w.drawn + 1 }

/- what append does, where what is appended is known -/
theorem append_core {P : Program} {t e : TypeId} {ts : Array TypeId} {ty : TypeId} {tx : TypeId} {dx : TypeDesc} {inf : TypeInfo} {z : Value} {w : World} {Z1 : FP} {sz : Nat} {α : Type} {f : α → List AV}
    {xs ys : List α} {i j : Nat} {sv xv : Value} {A Ay S : FP} {new : List Value}
    (ht0 : ts[0]? = some t) (ht1 : ts[1]? = some tx) (hu : P.underlying t = some (.slice e)) (hux : P.underlying tx = some dx) (hdx : ∀ k, dx ≠ .int k) (hinf : P.info? e = some inf) (hsz : inf.size = sz) (hpos : 0 < sz)
    (hz : inf.zero = some z) (hzs : z.cells.size = sz) (hby : 0 < inf.bytes)
    (hs : rel0 Z1 w (.sl true i sz α f xs) sv A) (hlen : ∀ W : World, W.heap = w.heap → (Builtin.lenOf xv).run P W = .ok ys.length W)
    (hfirst : ∀ W : World, W.heap = w.heap → (Builtin.firstCells sz ys.length xv).run P W = .ok new.toArray W)
    (hnew : new.length = ys.length * sz) (hrows : Rows sz (fun x cs A => rel0L Z1 w (f x) cs A) ys new Ay) (hcell : ∀ c ∈ new, isCell c) (hj : join S A Ay)
    (hroom : (xs.length + ys.length) * inf.bytes ≤ 2 ^ 46) (hSlt : ∀ b, S b → Z1 b ∧ b < w.heap.size) :
    ∃ v w' A', (Builtin.append_ ts ty #[sv, xv]).run P w = .ok v w' ∧ Grew w w' A ∧ (∀ b, A' b → (S b ∨ w.heap.size ≤ b) ∧ b < w'.heap.size) ∧
      rel0 (fun c => Z1 c ∨ w.heap.size ≤ c) w' (.sl true j sz α f (xs ++ ys)) v A' := by
  have hzz : ∀ b, ¬ Z1 b → b < w.heap.size → ¬ (Z1 b ∨ w.heap.size ≤ b) := fun b h1 h2 h => h.elim h1 (fun h => by omega)
  simp only [rel0] at hs
  obtain ⟨a, n, c, e1, hn, hc, hs⟩ := hs
  subst e1; subst hn
  have hbound : xs.length + ys.length ≤ 2 ^ 46 := by
    have : (xs.length + ys.length) * 1 ≤ (xs.length + ys.length) * inf.bytes := Nat.mul_le_mul_left _ hby
    omega
  have hpre : (Builtin.append_ ts ty #[.slice a xs.length c, xv]).run P w = (do
      let need := xs.length + ys.length
      if need ≤ c then
        let new ← Builtin.firstCells sz ys.length xv
        if let some a := a then storeCells (a.add (xs.length * sz)) new.toList
        pure (.slice a need c)
      else
        let newCap ← choose (.appendCap need c e)
        askRoom (newCap * inf.bytes)
        let old ← Builtin.firstCells sz xs.length (.slice a xs.length c)
        let new ← Builtin.firstCells sz ys.length xv
        let rest := Builtin.zeroCells z.cells (newCap - need)
        pure (.slice (some (← newRow e (old ++ new ++ rest))) need newCap) : Sem Value).run P w := by
    unfold Builtin.append_
    have g0 : (#[.slice a xs.length c, xv] : Array Value)[0]? = some (.slice a xs.length c) := rfl
    have g1 : (#[.slice a xs.length c, xv] : Array Value)[1]? = some xv := rfl
    simp only [ht0, g0, g1, ht1]
    rw [run_bind_ok (run_underlying hu w)]
    simp only []
    rw [run_bind_ok (run_sizeOf hinf w), hsz]
    rw [run_bind_ok (run_underlying hux w)]
    have hz0 : (match dx with | .int k => true | _ => false) = false := by
      cases dx <;> first | rfl | exact ((hdx _) rfl).elim
    simp only []
    rw [run_bind_ok (run_pure' P _ w)]
    simp only [hz0, Bool.false_eq_true, if_false, Bool.not_false, if_true]
    rw [run_bind_ok (hlen w rfl)]
    by_cases hle : xs.length + ys.length ≤ c
    · simp only [hle, if_true]
      cases a <;> rfl
    · simp only [hle, if_false]
      rw [run_bind_ok (run_typeInfo hinf w)]
      rw [if_neg (by simp [IntKind.max, IntKind.bits, IntKind.signed]; omega)]
      rw [run_bind_ok (run_typeInfo hinf w)]
      have hnc := nextcap_le (show c < xs.length + ys.length by omega)
      have hcap : Builtin.nextslicecap (xs.length + ys.length) c * inf.bytes ≤ 2 ^ 48 := by
        calc Builtin.nextslicecap (xs.length + ys.length) c * inf.bytes ≤ (2 * (xs.length + ys.length)) * inf.bytes := Nat.mul_le_mul_right _ hnc
          _ = 2 * ((xs.length + ys.length) * inf.bytes) := Nat.mul_assoc _ _ _
          _ ≤ 2 ^ 48 := by omega
      rw [if_neg (by omega)]
      obtain ⟨k, hk, hch⟩ := run_choose_cap (P := P) (n := xs.length + ys.length) (c := c) (e := e) (w := w)
      rw [run_bind_ok hch, run_bind_ok hch]
      rw [run_bind_ok (run_typeInfo hinf _)]
      rw [run_bind_ok run_askRoom, run_bind_ok run_askRoom]
      simp only [run_bind]
      cases (Builtin.firstCells sz xs.length (.slice a xs.length c)).run P { w with drawn := w.drawn + 1 } with
      | halt h w' => rfl
      | ok o w' =>
        simp only []
        cases (Builtin.firstCells sz ys.length xv).run P w' with
        | halt h w' => rfl
        | ok o w' =>
          simp only []
          rw [run_zeroValue hinf hz]
  rw [hpre]
  have hmono : ∀ (w' : World), (∀ b, b < w.heap.size → ¬ A b → w'.heap[b]? = w.heap[b]?) → Rows sz (fun x cs A => rel0L (fun c => Z1 c ∨ w.heap.size ≤ c) w' (f x) cs A) ys new Ay := by
    intro w' hw
    refine Rows_mono ys new Ay (fun x cs A' hA' hx => rel0L_mono (fun b h1 h2 => ⟨hzz b h1 h2, hw b h2 (fun x => h1 (hSlt b ((hj.1 b).2 (.inl x))).1)⟩) _ _ _ (fun b hb => ?_) hx) hrows
    exact hw b (hSlt b ((hj.1 b).2 (.inr (hA' b hb)))).2 (fun x => hj.2 b x (hA' b hb))
  by_cases hle : xs.length + ys.length ≤ c
  · simp only [hle, if_true]
    rw [run_bind_ok (hfirst w rfl)]
    rcases hs with ⟨_, hs⟩ | ⟨ho, _⟩
    · rcases hs with ⟨ha, hc0, hA⟩ | ⟨b, off, arr, tyy, S1, ha, hb, hsize, hr, hj1⟩
      · subst ha
        have hx0 : xs = [] := List.length_eq_zero_iff.1 (by omega)
        have hy0 : ys = [] := List.length_eq_zero_iff.1 (by omega)
        subst hx0; subst hy0; subst hc0
        refine ⟨.slice none 0 0, w, fun _ => False, rfl, ⟨rfl, rfl, rfl, Nat.le_refl _, fun _ _ _ => rfl⟩, fun b hb => hb.elim, ?_⟩
        simp only [rel0]
        exact ⟨none, 0, 0, rfl, rfl, Nat.le_refl _, .inl ⟨trivial, .inl ⟨rfl, rfl, emp_false⟩⟩⟩
      · subst ha
        have hmul : (xs.length + ys.length) * sz ≤ c * sz := Nat.mul_le_mul_right _ hle
        rw [Nat.add_mul] at hmul
        obtain ⟨w', hst, hw⟩ := run_storeCells (P := P) (off := off + xs.length * sz) new 0 w arr hb (by rw [hnew]; omega) hcell
        simp only []
        have hadd : (Addr.add ⟨b, off, none⟩ (xs.length * sz)) = ad b (off + xs.length * sz) := ad_add b off _
        rw [hadd]
        have hst' : (storeCells (ad b (off + xs.length * sz)) new.toArray.toList).run P w = .ok () w' := by simpa using hst
        rw [run_bind_ok hst']
        have hbA : A b := (hj1.1 b).2 (.inl rfl)
        have hgrew : Grew w w' A := ⟨hw.os, hw.tape, hw.output, by rw [hw.size]; exact Nat.le_refl _, fun x hx hxA => hw.oth x (fun h => hxA (h ▸ hbA))⟩
        refine ⟨_, w', S, rfl, hgrew, fun x hx => ⟨.inl hx, by rw [hw.size]; exact (hSlt x hx).2⟩, ?_⟩
        simp only [rel0]
        have hwb := hw.blk
        simp only [Nat.add_zero] at hwb
        obtain ⟨E, h5, h6⟩ := join_assoc' hj hj1
        refine ⟨some ⟨b, off, none⟩, _, c, rfl, by simp, hle, .inl ⟨trivial, .inr ⟨b, off, _, tyy, E, rfl, hwb, ?_, ?_, h5⟩⟩⟩
        · have := over_length (l := arr.toList) (off := off + xs.length * sz) (cs := new) (by simp [hnew]; omega)
          simp [this]; omega
        · have hxrows : Rows sz (fun x cs A => rel0L (fun c => Z1 c ∨ w.heap.size ≤ c) w' (f x) cs A) xs (arr.toList.drop off) S1 := by
            refine Rows_mono xs _ S1 (fun x cs A' hA' hx => rel0L_mono (fun b' h1 h2 => ⟨hzz b' h1 h2, hw.oth b' (fun h => h1 (h ▸ (hSlt b ((hj.1 b).2 (.inl hbA))).1))⟩) _ _ _ (fun b' hb' => ?_) hx) hr
            exact hw.oth b' (fun h => hj1.2 b rfl (h ▸ hA' b' hb'))
          have hlx := Rows_len xs _ _ hr
          simp at hlx
          refine Rows_concat xs ys _ S1 Ay E ?_ ?_ h6
          · refine Rows_congr xs _ _ S1 hxrows ?_
            simp only [List.toList_toArray, over]
            rw [List.append_assoc, List.drop_append_of_le_length (by simp; omega)]
            rw [List.take_append_of_le_length (by simp; omega)]
            rw [List.drop_take, List.take_take]
            congr 1; omega
          · refine Rows_congr ys new _ Ay (hmono w' (fun x hx hxA => hgrew.old x hx hxA)) ?_
            simp only [List.toList_toArray, over]
            rw [List.drop_drop, List.append_assoc, List.drop_append, List.drop_of_length_le (by simp; omega)]
            have : off + xs.length * sz - (List.take (off + xs.length * sz) arr.toList).length = 0 := by simp; omega
            rw [this]
            simp only [List.drop_zero, List.nil_append]
            rw [List.take_append_of_le_length (by omega)]
    · cases ho
  · simp only [hle, if_false]
    obtain ⟨k, hk, hch⟩ := run_choose_cap (P := P) (n := xs.length + ys.length) (c := c) (e := e) (w := w)
    rw [run_bind_ok hch, run_bind_ok run_askRoom]
    obtain ⟨old, hold, holdlen, hoR⟩ : ∃ old : List Value, (Builtin.firstCells sz xs.length (.slice a xs.length c)).run P { w with drawn := w.drawn + 1 } = .ok old.toArray { w with drawn := w.drawn + 1 } ∧
        old.length = xs.length * sz ∧ ∃ A1, (∀ b, A1 b → A b) ∧ Rows sz (fun x cs A => rel0L Z1 w (f x) cs A) xs old A1 := by
      rcases hs with ⟨_, hs⟩ | ⟨ho, _⟩
      · rcases hs with ⟨ha, hc0, hA⟩ | ⟨b, off, arr, tyy, S1, ha, hb, hsize, hr, hj1⟩
        · subst ha
          have hx0 : xs = [] := List.length_eq_zero_iff.1 (by omega)
          subst hx0
          exact ⟨[], rfl, by simp, fun _ => False, fun _ h => h.elim, emp_false⟩
        · subst ha
          have hmul : xs.length * sz ≤ c * sz := Nat.mul_le_mul_right _ hc
          refine ⟨(arr.toList.drop off).take (xs.length * sz), run_firstCells hb (by omega), by simp; omega, S1, fun b' hb' => (hj1.1 b').2 (.inr hb'), ?_⟩
          exact Rows_congr xs _ _ S1 hr (by rw [List.take_take, Nat.min_self])
      · cases ho
    obtain ⟨A1, hA1, hxr⟩ := hoR
    rw [run_bind_ok hold, run_bind_ok (hfirst { w with drawn := w.drawn + 1 } rfl), run_bind_ok run_newRow]
    let w1 : World := { w with drawn := w.drawn + 1 }
    have hgr : ∀ o, Grew w (pushed w1 o) A := fun o => ⟨rfl, rfl, rfl, by simp [pushed, w1], fun b hb _ => by simp only [pushed, w1]; rw [Array.getElem?_push, if_neg (by omega)]⟩
    have hjj : join (fun b => A1 b ∨ Ay b) A1 Ay := ⟨fun _ => Iff.rfl, fun b x y => hj.2 b (hA1 b x) y⟩
    refine ⟨_, _, fun b => b = w.heap.size ∨ (A1 b ∨ Ay b), rfl, hgr _, fun b hb => ?_, ?_⟩
    · have : (pushed w1 (.cells (old.toArray ++ new.toArray ++ Builtin.zeroCells z.cells (k - (xs.length + ys.length))) e (0, 0))).heap.size = w.heap.size + 1 := pushed_size w1 _
      rw [this]
      rcases hb with hb | hb | hb
      · omega
      · have := (hSlt b ((hj.1 b).2 (.inl (hA1 b hb)))).2
        exact ⟨.inl ((hj.1 b).2 (.inl (hA1 b hb))), by omega⟩
      · have := (hSlt b ((hj.1 b).2 (.inr hb))).2
        exact ⟨.inl ((hj.1 b).2 (.inr hb)), by omega⟩
    · simp only [rel0]
      refine ⟨_, _, _, rfl, by simp, hk, .inl ⟨trivial, .inr ⟨w.heap.size, 0, _, e, fun b => A1 b ∨ Ay b, rfl, pushed_new w1 _, ?_, ?_, ⟨fun b => Iff.rfl, fun b h1 h2 => ?_⟩⟩⟩⟩
      · have : (Builtin.zeroCells z.cells (k - (xs.length + ys.length))).size = (k - (xs.length + ys.length)) * sz := by simp [Builtin.zeroCells, hzs]
        simp only [Array.size_append, List.size_toArray, holdlen, hnew, this]
        rw [← Nat.add_mul, ← Nat.add_mul]
        rw [show xs.length + ys.length + (k - (xs.length + ys.length)) = k by omega]; omega
      · rw [List.drop_zero]
        have hxrows : Rows sz (fun x cs A => rel0L (fun c => Z1 c ∨ w.heap.size ≤ c) (pushed w1 (.cells (old.toArray ++ new.toArray ++ Builtin.zeroCells z.cells (k - (xs.length + ys.length))) e (0, 0))) (f x) cs A) xs old A1 := by
          refine Rows_mono xs _ A1 (fun x cs A' hA' hx => rel0L_mono (fun b' h1 h2 => ⟨hzz b' h1 h2, ?_⟩) _ _ _ (fun b' hb' => ?_) hx) hxr
          · simp only [pushed, w1]; rw [Array.getElem?_push, if_neg (by omega)]
          · have := (hSlt b' ((hj.1 b').2 (.inl (hA1 b' (hA' b' hb'))))).2
            simp only [pushed, w1]; rw [Array.getElem?_push, if_neg (by omega)]
        refine Rows_concat xs ys _ A1 Ay _ ?_ ?_ hjj
        · refine Rows_congr xs old _ A1 hxrows ?_
          simp only [Array.toList_append, List.append_assoc]
          rw [List.take_append_of_le_length (by omega)]
        · refine Rows_congr ys new _ Ay (hmono _ (fun x hx _ => by simp only [pushed, w1]; rw [Array.getElem?_push, if_neg (by omega)])) ?_
          simp only [Array.toList_append, List.append_assoc]
          rw [List.drop_append, List.drop_of_length_le (by omega)]
          have : xs.length * sz - old.length = 0 := by omega
          rw [this]
          simp only [List.drop_zero, List.nil_append]
          rw [List.take_append_of_le_length (by omega)]
      · simp only [one] at h1
        have := h2.elim (fun h => (hSlt b ((hj.1 b).2 (.inl (hA1 b h)))).2) (fun h => (hSlt b ((hj.1 b).2 (.inr h))).2)
        omega

end Go.Eng
