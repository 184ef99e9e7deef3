/- A part of the proof: the engine and the contracts, joined. -/
import Derived.Test.YtinkjpfkemkhaaaGreatDoorQI
section
/- Marks of nodes. -/
set_option linter.unusedVariables false
set_option linter.unusedSimpArgs false
namespace Go.My
open Go.Eng Go.Proofs
variable {G : GInv}

/- marks of nodes: what they are does not matter -/
def digs : Nat → Nat → List UInt8
  | 0, _ => []
  | n + 1, k => if k = 0 then [] else digs n (k / 10) ++ [UInt8.ofNat (48 + k % 10)]
def mText (k : Int) : List UInt8 := if k ≤ 0 then [109, 48] else 109 :: digs 64 k.toNat
theorem digs_len : ∀ {n k : Nat}, (digs n k).length ≤ n
  | 0, k => Nat.le_refl _
  | n + 1, k => by
    unfold digs; split
    · simp
    · have := @digs_len n (k / 10); simp; omega
theorem digs_eq : ∀ {n m k : Nat}, k < 10 ^ n → k < 10 ^ m → digs n k = digs m k
  | 0, 0, k, _, _ => rfl
  | 0, m + 1, k, h, _ => by
    have : k = 0 := by simp at h; exact h
    subst this; simp [digs]
  | n + 1, 0, k, _, h => by
    have : k = 0 := by simp at h; exact h
    subst this; simp [digs]
  | n + 1, m + 1, k, h1, h2 => by
    simp only [digs]
    split
    · rfl
    · rw [digs_eq (n := n) (m := m) (by rw [Nat.pow_succ] at h1; omega) (by rw [Nat.pow_succ] at h2; omega)]
def mdI (k0 k : Int) (out : List UInt8) : Prop := (0 ≤ k ∧ k ≤ k0 ∧ k0 ≤ 2 ^ 60) ∧ digs 64 k.toNat ++ out = digs 64 k0.toNat
theorem mdI_init {k : Int} (h : ¬ k ≤ 0) (h2 : k ≤ 2 ^ 60) : mdI k k [] := ⟨by omega, by simp⟩
theorem mdI_next {k0 k : Int} {out : List UInt8} {c : UInt8} (h : mdI k0 k out) (hk : k > 0) (hc : 48 + k.tmod 10 = (c.toNat : Int)) : mdI k0 (k.tdiv 10) ([c] ++ out) := by
  obtain ⟨h1, h2⟩ := h
  have e1 : k.tdiv 10 = k / 10 := Int.tdiv_eq_ediv_of_nonneg (by omega)
  have e2 : k.tmod 10 = k % 10 := Int.tmod_eq_emod_of_nonneg (by omega)
  rw [e1]; rw [e2] at hc
  refine ⟨by omega, ?_⟩
  rw [← h2]
  have e3 : (k / 10).toNat = k.toNat / 10 := by omega
  have e4 : c = UInt8.ofNat (48 + k.toNat % 10) := by
    apply UInt8.toNat_inj.1
    have : (48 + k.toNat % 10) % 256 = 48 + k.toNat % 10 := by omega
    simp; omega
  have e5 : digs 64 k.toNat = digs 63 (k.toNat / 10) ++ [UInt8.ofNat (48 + k.toNat % 10)] := by
    rw [digs, if_neg (by omega)]
  rw [e3, e5, e4, digs_eq (n := 64) (m := 63) (by omega) (by omega)]; simp
theorem mdI_done {k0 k : Int} {out : List UInt8} (h : mdI k0 k out) (hk : ¬ k > 0) : out = digs 64 k0.toNat := by
  obtain ⟨h1, h2⟩ := h
  obtain rfl : k = 0 := by omega
  rw [← h2]; simp [digs]
theorem mdI_len {k0 k : Int} {out : List UInt8} (h : mdI k0 k out) : out.length ≤ 64 := by
  have := congrArg List.length h.2
  have h2 := @digs_len 64 k0.toNat
  simp at this; omega
theorem mdI_0 {k0 k : Int} {out : List UInt8} (h : mdI k0 k out) (hk : k > 0) : 0 ≤ k.tmod 10 ∧ k.tmod 10 < 10 ∧ 0 ≤ k.tdiv 10 ∧ k.tdiv 10 < k ∧ k ≤ 2 ^ 60 := by
  have e1 : k.tdiv 10 = k / 10 := Int.tdiv_eq_ediv_of_nonneg (by omega)
  have e2 : k.tmod 10 = k % 10 := Int.tmod_eq_emod_of_nonneg (by omega)
  have := h.1
  rw [e1, e2]; omega
theorem inR_u8 {n : Int} (h1 : 0 ≤ n) (h2 : n ≤ 255) : inR .u8 n := by
  unfold inR; simp [IntKind.min, IntKind.max, IntKind.bits, IntKind.signed]; omega
theorem u8_of {n : Int} (h0 : 0 ≤ n) (h1 : n < 256) : ∃ c : UInt8, n = (c.toNat : Int) := ⟨UInt8.ofNat n.toNat, by
  have : n.toNat % 256 = n.toNat := by omega
  simp; omega⟩
theorem ex_u8 {n : Int} {q : UInt8 → Prop} (h0 : 0 ≤ n) (h1 : n < 256) (h : ∀ c : UInt8, n = (c.toNat : Int) → q c) : ∃ c : UInt8, n = (c.toNat : Int) ∧ q c := by
  obtain ⟨c, hc⟩ := u8_of h0 h1
  exact ⟨c, hc, h c hc⟩
def s_markText  : Sig := { X := Int, args := fun x => [.int .i64 x], pre := fun x => x ≤ 2 ^ 60, Y := Unit, post := fun x y => True, res := fun x y => .str (mText x), outs := fun x y => [.top], keep := false }
theorem markText_vc (x : Int) : vcFun Go.Proofs.Tryz.prog (Γof []) (Eof [(135, ⟨UInt8,bytA⟩)]) false (Lof ([(4,{ ι := Int × List UInt8, inv := fun i => mdI x i.1 i.2, regs := fun i => [(0, .int .i64 i.1), (3, .str i.2)], als := [], meas := fun i => i.1.toNat })])) Go.Proofs.Tryz.f59.ntmps Go.Proofs.Tryz.f59.results.toList (Go.Proofs.Tryz.f59.body.getD .skip) s_markText x = ((∀ (y : Unit), True → True ∧ True ∧ True) ∧ bcase (decide (x ≤ (0 : Int))) (∃ (y : Unit), True ∧ #[(109 : UInt8), (48 : UInt8)].toList = mText x ∧ True) ((∃ (i : Int × List UInt8), mdI x i.fst i.snd ∧ (x = i.fst ∧ #[].toList = i.snd ∧ True) ∧ True) ∧ ∀ (i : Int × List UInt8), mdI x i.fst i.snd → bcase (decide (i.fst > (0 : Int))) ((10 : Int) ≠ (0 : Int) ∧ inR IntKind.i64 ((48 : Int) + Int.tmod i.fst (10 : Int)) ∧ inR IntKind.u8 ((48 : Int) + Int.tmod i.fst (10 : Int)) ∧ ∃ (x_1 : UInt8), (48 : Int) + Int.tmod i.fst (10 : Int) = (↑(UInt8.toNat x_1) : Int) ∧ ∃ (l : List UInt8), AV.sl false (0 : Nat) (1 : Nat) UInt8 bytA [x_1] = AV.sl false (0 : Nat) (1 : Nat) UInt8 bytA l ∧ (↑(List.length l + List.length i.snd) : Int) ≤ IntKind.max IntKind.i64 ∧ (10 : Int) ≠ (0 : Int) ∧ inR IntKind.i64 (Int.tdiv i.fst (10 : Int)) ∧ ∃ (i' : Int × List UInt8), mdI x i'.fst i'.snd ∧ Int.toNat i'.fst < Int.toNat i.fst ∧ (Int.tdiv i.fst (10 : Int) = i'.fst ∧ l ++ i.snd = i'.snd ∧ True) ∧ True) ((↑((1 : Nat) + List.length i.snd) : Int) ≤ IntKind.max IntKind.i64 ∧ ∃ (y : Unit), True ∧ #[(109 : UInt8)].toList ++ i.snd = mText x ∧ True))) := by kernel_rfl
theorem markText_ok  : Contract G Tryz.prog 59 s_markText :=
  vcFun_ok (Γ := Γof []) (E := Eof [(135, ⟨UInt8,bytA⟩)]) (ov := false) (L := fun x => Lof ([(4,{ ι := Int × List UInt8, inv := fun i => mdI x i.1 i.2, regs := fun i => [(0, .int .i64 i.1), (3, .str i.2)], als := [], meas := fun i => i.1.toNat })])) Tryz.func59 rfl (by decide) (Γof_ok (l := []) trivial) fun (x : Int) (hx : x ≤ 2 ^ 60) => (markText_vc  x).mpr (by
  have hx : x ≤ 2 ^ 60 := hx
  (repeat' first | refine ex_u8 ?_ ?_ ?_ | with_reducible rfl | exact True.intro | refine inR_i64 ?_ ?_ | with_reducible refine And.intro ?_ ?_ | with_reducible refine bcase_dec (fun _ => ?_) (fun _ => ?_) | with_reducible refine bcase_bne (fun _ => ?_) (fun _ => ?_) | with_reducible refine bcase_beq (fun _ => ?_) (fun _ => ?_) | with_reducible refine bcase_not (fun _ => ?_) (fun _ => ?_) | refine bcase_intro (fun _ => ?_) (fun _ => ?_) | refine sl_eq ?_ | refine ex_flip () ?_ ?_ | (apply ex_flip6 <;> try dsimp only) | (apply ex_flip5 <;> try dsimp only) | (apply ex_flip4 <;> try dsimp only) | (apply ex_flip3 <;> try dsimp only) | (apply ex_flip2 <;> try dsimp only) | apply ex_flip | (refine Prod.forall.2 ?_; intro _; try dsimp only) | (intro _; try dsimp only))
  all_goals first
    | rfl
    | (simp [mText, *]; done)
    | exact mdI_init (by assumption) hx
    | exact mdI_next (by assumption) (by assumption) (by assumption)
    | (rw [mdI_done (by assumption) (by assumption), mText, if_neg (by assumption)]; rfl)
    | (have h0 := mdI_0 (by assumption) (by assumption); exact inR_u8 (by omega) (by omega))
    | (have h0 := mdI_0 (by assumption) (by assumption); have h1 := mdI_len (by assumption); (try simp only [i64max, List.length_cons, List.length_nil]); omega)
    | (have h1 := mdI_len (by assumption); (try simp only [i64max, List.length_cons, List.length_nil]); omega)
    | skip
  have hd := mdI_done (show mdI _ _ _ by assumption) (by assumption)
  rw [hd, mText, if_neg (by assumption)]
  rfl)

section
variable {α : Type}
def gTot (sz : α → Nat) : List α → Int
  | [] => 0
  | g :: l => sz g + gTot sz l
def gMk (mk : Int → α → α) (sz : α → Nat) (k : Int) : List α → List α
  | [] => []
  | g :: l => mk k g :: gMk mk sz (k + sz g) l
variable {mk : Int → α → α} {sz : α → Nat}
theorem gTot_snoc : ∀ {l : List α} {g : α}, gTot sz (l ++ [g]) = gTot sz l + sz g
  | [], g => by simp [gTot]
  | x :: l, g => by simp only [List.cons_append, gTot]; rw [gTot_snoc]; omega
theorem gMk_snoc : ∀ {l : List α} {g : α} {k : Int}, gMk mk sz k (l ++ [g]) = gMk mk sz k l ++ [mk (k + gTot sz l) g]
  | [], g, k => by simp [gMk, gTot]
  | x :: l, g, k => by
    simp only [List.cons_append, gMk, gTot]; rw [gMk_snoc]
    rw [show k + (sz x : Int) + gTot sz l = k + (sz x + gTot sz l) by omega]
theorem gMk_len : ∀ {l : List α} {k : Int}, (gMk mk sz k l).length = l.length
  | [], k => rfl
  | x :: l, k => by simp [gMk, gMk_len]
theorem gMk_at : ∀ {l : List α} {k : Int} {i : Nat} {g : α}, l[i]? = some g → (gMk mk sz k l)[i]? = some (mk (k + gTot sz (l.take i)) g)
  | [], k, i, g, h => by simp at h
  | x :: l, k, 0, g, h => by simp at h; subst h; simp [gMk, gTot]
  | x :: l, k, i + 1, g, h => by
    simp only [gMk, List.getElem?_cons_succ, List.take_succ_cons, gTot] at h ⊢
    rw [gMk_at h]; congr 2; omega
theorem gTot_bd : ∀ {l : List α} {n : Nat}, (∀ g ∈ l, sz g ≤ n) → 0 ≤ gTot sz l ∧ gTot sz l ≤ l.length * n
  | [], n, h => by simp [gTot]
  | x :: l, n, h => by
    have h1 := h x (by simp)
    have h2 := gTot_bd (l := l) (n := n) fun g hg => h g (by simp [hg])
    rw [gTot, List.length_cons]
    have e : ((l.length + 1 : Nat) : Int) * (n : Int) = l.length * n + n := by rw [Int.natCast_add, Int.add_mul]; simp
    rw [e]; omega
theorem gMk_set {l : List α} {k : Int} {i : Nat} {g : α} (h : l[i]? = some g) : (gMk mk sz k (l.take i) ++ l.drop i).set i (mk (k + gTot sz (l.take i)) g) = gMk mk sz k (l.take (i + 1)) ++ l.drop (i + 1) := by
  have hi := (getE h).1
  have e : (gMk mk sz k (l.take i)).length = i := by rw [gMk_len, List.length_take]; omega
  rw [List.set_append_right _ _ (by rw [e]; exact Nat.le_refl i), e, Nat.sub_self, dropE h, List.set_cons_zero, takeE h, gMk_snoc]
  simp
theorem gset {L : List α} {i : Nat} {a b : α} (hb : (L.set i a)[i]? = some b) : a = b := by
  rw [List.getElem?_set] at hb
  split at hb
  · split at hb
    · exact Option.some.inj hb
    · cases hb
  · rename_i h; exact (h rfl).elim
/- the state while marks are written -/
def gSt (mk : Int → α → α) (sz : α → Nat) (k : Int) (l : List α) (i : Int) : List α := gMk mk sz k (l.take i.toNat) ++ l.drop i.toNat
def qgB (sz : α → Nat) (l : List α) : Prop := l.length ≤ 1048576 ∧ ∀ g ∈ l, sz g ≤ 1048600
def qgI (sz : α → Nat) (l : List α) (i : Int) : Prop := qgB sz l ∧ 0 ≤ i ∧ i ≤ l.length
theorem gSt_len {k i : Int} {l : List α} (h : qgI sz l i) : (gSt mk sz k l i).length = l.length := by
  have := h.2
  rw [gSt, List.length_append, gMk_len, List.length_take, List.length_drop]; omega
theorem gSt_at {k i : Int} {l : List α} {g : α} (h : qgI sz l i) (hg : (gSt mk sz k l i)[i.toNat]? = some g) : l[i.toNat]? = some g := by
  have hlt := (getE hg).1
  rw [gSt_len h] at hlt
  have hl : (gMk mk sz k (l.take i.toNat)).length = i.toNat := by rw [gMk_len, List.length_take]; omega
  rw [gSt, List.getElem?_append_right (by omega), hl, Nat.sub_self] at hg
  simpa using hg
theorem qgI_tot {i : Int} {l : List α} (h : qgI sz l i) : 0 ≤ gTot sz (l.take i.toNat) ∧ gTot sz (l.take i.toNat) ≤ 2000000000000 := by
  have h1 := @gTot_bd _ sz (l.take i.toNat) 1048600 fun g hg => h.1.2 g (List.mem_of_mem_take hg)
  have h2 : (l.take i.toNat).length ≤ 1048576 := by rw [List.length_take]; have := h.1.1; omega
  omega
theorem gSt_end {k i : Int} {l : List α} (h : qgI sz l i) (hl : ¬ i < ((gSt mk sz k l i).length : Int)) : gSt mk sz k l i = gMk mk sz k l ∧ k + gTot sz (l.take i.toNat) = k + gTot sz l := by
  rw [gSt_len h] at hl
  rw [gSt, List.take_of_length_le (by omega), List.drop_eq_nil_of_le (by omega)]; simp
theorem gSt_0 {k : Int} {l : List α} : l = gSt mk sz k l 0 := by simp [gSt, gMk]
theorem gSt_step {k i : Int} {l : List α} {g b : α} (h : qgI sz l i) (hg : (gSt mk sz k l i)[i.toNat]? = some g) (hb : b = mk (k + gTot sz (l.take i.toNat)) g) : (gSt mk sz k l i).set i.toNat b = gSt mk sz k l (i + 1) := by
  rw [hb, gSt, gMk_set (gSt_at h hg), gSt, toNat1 h.2.1]
theorem gTot_step {k i : Int} {l : List α} {g : α} (h : qgI sz l i) (hg : (gSt mk sz k l i)[i.toNat]? = some g) : k + gTot sz (l.take (i + 1).toNat) = k + gTot sz (l.take i.toNat) + sz g := by
  rw [toNat1 h.2.1, takeE (gSt_at h hg), gTot_snoc]; omega
theorem qgI_sz {k i : Int} {l : List α} {g : α} (h : qgI sz l i) (hg : (gSt mk sz k l i)[i.toNat]? = some g) : sz g ≤ 1048600 := h.1.2 g (memE (gSt_at h hg))
theorem qgI_next {k i : Int} {l : List α} {g : α} (h : qgI sz l i) (hg : (gSt mk sz k l i)[i.toNat]? = some g) : qgI sz l (i + 1) := by
  have := (getE (gSt_at h hg)).1
  exact ⟨h.1, by have := h.2.1; omega, by have := h.2.1; omega⟩
/- held -/
def qhI (mk : Int → α → α) (sz : α → Nat) (k : Int) (l : List α) (i : Int) : Prop := l = gMk mk sz k l ∧ qgI sz l i
theorem qhI_at {k i : Int} {l : List α} {g : α} (h : qhI mk sz k l i) (hg : l[i.toNat]? = some g) : g = mk (k + gTot sz (l.take i.toNat)) g := by
  have h1 : (gMk mk sz k l)[i.toNat]? = some g := by rw [← h.1]; exact hg
  have h2 := gMk_at (mk := mk) (sz := sz) (k := k) hg
  rw [h1] at h2; exact Option.some.inj h2
theorem qhI_step {k i : Int} {l : List α} {g : α} (h : qhI mk sz k l i) (hg : l[i.toNat]? = some g) : k + gTot sz (l.take (i + 1).toNat) = k + gTot sz (l.take i.toNat) + sz g := by
  rw [toNat1 h.2.2.1, takeE hg, gTot_snoc]; omega
theorem qhI_next {k i : Int} {l : List α} {g : α} (h : qhI mk sz k l i) (hg : l[i.toNat]? = some g) : qhI mk sz k l (i + 1) := by
  have := (getE hg).1
  exact ⟨h.1, h.2.1, by have := h.2.2.1; omega, by have := h.2.2.1; omega⟩
theorem qhI_sz {k i : Int} {l : List α} {g : α} (h : qhI mk sz k l i) (hg : l[i.toNat]? = some g) : sz g ≤ 1048600 := h.2.1.2 g (memE hg)
theorem qhI_end {k i : Int} {l : List α} (h : qhI mk sz k l i) (hl : ¬ i < (l.length : Int)) : k + gTot sz (l.take i.toNat) = k + gTot sz l := by
  rw [List.take_of_length_le (by have := h.2.2.2; omega)]
theorem gMk_idem (hs : ∀ k g, sz (mk k g) = sz g) (hm : ∀ k g, mk k (mk k g) = mk k g) : ∀ {l : List α} {k : Int}, gMk mk sz k (gMk mk sz k l) = gMk mk sz k l ∧ gTot sz (gMk mk sz k l) = gTot sz l
  | [], k => ⟨rfl, rfl⟩
  | g :: l, k => by
    simp only [gMk, gTot, hs, hm]
    have := @gMk_idem hs hm l (k + sz g)
    rw [this.1, this.2]; exact ⟨rfl, rfl⟩
theorem gMk_mem (hs : ∀ k g, sz (mk k g) = sz g) : ∀ {l : List α} {k : Int} {n : Nat}, (∀ g ∈ l, sz g ≤ n) → ∀ g ∈ gMk mk sz k l, sz g ≤ n
  | [], k, n, h, g, hg => by cases hg
  | x :: l, k, n, h, g, hg => by
    rcases List.mem_cons.1 hg with e | e
    · rw [e, hs]; exact h x (by simp)
    · exact gMk_mem hs (fun y hy => h y (by simp [hy])) g e
theorem gB_mk (hs : ∀ k g, sz (mk k g) = sz g) {l : List α} {k : Int} (h : qgB sz l) : qgB sz (gMk mk sz k l) := ⟨by rw [gMk_len]; exact h.1, gMk_mem hs h.2⟩
end
def mkN (k : Int) (x : Nd) : Nd := ⟨k, mText (k + 1), mkI (k + 1 + 1) x.kids.length, (k + 1 + 1 + x.kids.length).tmod 3 == 0⟩
def szN (x : Nd) : Nat := x.kids.length + 3
theorem szN_mk (k : Int) (x : Nd) : szN (mkN k x) = szN x := by simp [szN, mkN, mkI_len]
theorem mkN_mk (k : Int) (x : Nd) : mkN k (mkN k x) = mkN k x := by simp [mkN, mkI_len]
def lMkNs (x : List Nd × Int) : LS := {
  ι := Int, inv := qgI szN x.1, regs := fun i => [(0, onds (gSt mkN szN x.2 x.1 i)), (1, .int .i64 (x.2 + gTot szN (x.1.take i.toNat))), (5, .int .i64 i)], als := [], meas := fun i => x.1.length - i.toNat }
def s_markNds  : Sig := { X := List Nd × Int, args := fun x => [onds x.1, .int .i64 x.2], pre := fun x => qgB szN x.1 ∧ 0 ≤ x.2 ∧ x.2 ≤ 2 ^ 50, Y := Unit, post := fun x y => True, res := fun x y => .int .i64 (x.2 + gTot szN x.1), outs := fun x y => [onds (gMk mkN szN x.2 x.1), .top], keep := false, fixed := [0] }
theorem markNds_vc (x : List Nd × Int) : vcFun Go.Proofs.Tryz.prog (Γof [(39, 0, s_markInts), (59, 0, s_markText)]) (Eof []) false (Lof ([(2,lMkNs x)])) Go.Proofs.Tryz.f16.ntmps Go.Proofs.Tryz.f16.results.toList (Go.Proofs.Tryz.f16.body.getD .skip) s_markNds x = ((∀ (y : Unit), True → True ∧ (∀ (x : Nd), True ∧ True ∧ (∀ (x : Int), True ∧ True) ∧ True ∧ True) ∧ True ∧ True) ∧ (∃ (i : Int), qgI szN x.fst i ∧ (AV.sl true (0 : Nat) (4 : Nat) Nd (ndA true) x.fst = AV.sl true (0 : Nat) (4 : Nat) Nd (ndA true) (gSt mkN szN x.snd x.fst i) ∧ x.snd = x.snd + gTot szN (List.take (Int.toNat i) x.fst) ∧ (0 : Int) = i ∧ True) ∧ True) ∧ ∀ (i : Int), qgI szN x.fst i → bcase (decide (i < (↑(List.length (gSt mkN szN x.snd x.fst i)) : Int))) (((0 : Int) ≤ i ∧ i < (↑(List.length (gSt mkN szN x.snd x.fst i)) : Int)) ∧ Int.toNat i < List.length (gSt mkN szN x.snd x.fst i) ∧ ∀ (x_1 : Nd), (gSt mkN szN x.snd x.fst i)[Int.toNat i]? = some x_1 → ∃ (x' : Nd), ((@List.nil AV) = [] ∧ [AV.str x'.text, AV.sl true (0 : Nat) (1 : Nat) Int intA x'.kids, AV.bool x'.blank] = [AV.str x_1.text, AV.sl true (0 : Nat) (1 : Nat) Int intA x_1.kids, AV.bool x_1.blank]) ∧ x.snd + gTot szN (List.take (Int.toNat i) x.fst) = x'.kind ∧ inR IntKind.i64 (x.snd + gTot szN (List.take (Int.toNat i) x.fst) + (1 : Int)) ∧ ∃ (x_2 : Int), x_2 ≤ (2 : Int) ^ (60 : Nat) ∧ x.snd + gTot szN (List.take (Int.toNat i) x.fst) + (1 : Int) = x_2 ∧ ∀ (y : Unit), True → ((0 : Int) ≤ i ∧ i < (↑(List.length (List.set (gSt mkN szN x.snd x.fst i) (Int.toNat i) x')) : Int)) ∧ Int.toNat i < List.length (List.set (gSt mkN szN x.snd x.fst i) (Int.toNat i) x') ∧ ∀ (x_3 : Nd), (List.set (gSt mkN szN x.snd x.fst i) (Int.toNat i) x')[Int.toNat i]? = some x_3 → ∃ (x'_1 : Nd), ([AV.int IntKind.i64 x'_1.kind] = [AV.int IntKind.i64 x_3.kind] ∧ [AV.sl true (0 : Nat) (1 : Nat) Int intA x'_1.kids, AV.bool x'_1.blank] = [AV.sl true (0 : Nat) (1 : Nat) Int intA x_3.kids, AV.bool x_3.blank]) ∧ mText x_2 = x'_1.text ∧ inR IntKind.i64 (x.snd + gTot szN (List.take (Int.toNat i) x.fst) + (1 : Int) + (1 : Int)) ∧ ((0 : Int) ≤ i ∧ i < (↑(List.length (List.set (List.set (gSt mkN szN x.snd x.fst i) (Int.toNat i) x') (Int.toNat i) x'_1)) : Int)) ∧ Int.toNat i < List.length (List.set (List.set (gSt mkN szN x.snd x.fst i) (Int.toNat i) x') (Int.toNat i) x'_1) ∧ ∀ (z : Nd), (List.set (List.set (gSt mkN szN x.snd x.fst i) (Int.toNat i) x') (Int.toNat i) x'_1)[Int.toNat i]? = some z → ∃ (x_4 : List Int × Int), (List.length x_4.fst ≤ (1099511627776 : Nat) ∧ (0 : Int) ≤ x_4.snd ∧ x_4.snd ≤ (2 : Int) ^ (60 : Nat)) ∧ AV.sl true (0 : Nat) (1 : Nat) Int intA z.kids = AV.sl true (0 : Nat) (1 : Nat) Int intA x_4.fst ∧ x.snd + gTot szN (List.take (Int.toNat i) x.fst) + (1 : Int) + (1 : Int) = x_4.snd ∧ ∀ (y : Unit), True → ∃ (z' : Nd), [AV.int IntKind.i64 z'.kind, AV.str z'.text, AV.sl true (0 : Nat) (1 : Nat) Int intA z'.kids, AV.bool z'.blank] = [AV.int IntKind.i64 z.kind, AV.str z.text, AV.sl true (0 : Nat) (1 : Nat) Int intA (mkI x_4.snd (List.length x_4.fst)), AV.bool z.blank] ∧ (3 : Int) ≠ (0 : Int) ∧ ((0 : Int) ≤ i ∧ i < (↑(List.length (List.set (List.set (List.set (gSt mkN szN x.snd x.fst i) (Int.toNat i) x') (Int.toNat i) x'_1) (Int.toNat i) z')) : Int)) ∧ Int.toNat i < List.length (List.set (List.set (List.set (gSt mkN szN x.snd x.fst i) (Int.toNat i) x') (Int.toNat i) x'_1) (Int.toNat i) z') ∧ ∀ (x_5 : Nd), (List.set (List.set (List.set (gSt mkN szN x.snd x.fst i) (Int.toNat i) x') (Int.toNat i) x'_1) (Int.toNat i) z')[Int.toNat i]? = some x_5 → ∃ (x'_2 : Nd), ([AV.int IntKind.i64 x'_2.kind, AV.str x'_2.text, AV.sl true (0 : Nat) (1 : Nat) Int intA x'_2.kids] = [AV.int IntKind.i64 x_5.kind, AV.str x_5.text, AV.sl true (0 : Nat) (1 : Nat) Int intA x_5.kids] ∧ (@List.nil AV) = []) ∧ (Int.tmod (x_4.snd + (↑(List.length x_4.fst) : Int)) (3 : Int) == (0 : Int)) = x'_2.blank ∧ inR IntKind.i64 (x_4.snd + (↑(List.length x_4.fst) : Int) + (1 : Int)) ∧ inR IntKind.i64 (i + (1 : Int)) ∧ ∃ (i' : Int), qgI szN x.fst i' ∧ List.length x.fst - Int.toNat i' < List.length x.fst - Int.toNat i ∧ (AV.sl true (0 : Nat) (4 : Nat) Nd (ndA true) (List.set (List.set (List.set (List.set (gSt mkN szN x.snd x.fst i) (Int.toNat i) x') (Int.toNat i) x'_1) (Int.toNat i) z') (Int.toNat i) x'_2) = AV.sl true (0 : Nat) (4 : Nat) Nd (ndA true) (gSt mkN szN x.snd x.fst i') ∧ x_4.snd + (↑(List.length x_4.fst) : Int) + (1 : Int) = x.snd + gTot szN (List.take (Int.toNat i') x.fst) ∧ i + (1 : Int) = i' ∧ True) ∧ True) (∃ (y : Unit), True ∧ x.snd + gTot szN (List.take (Int.toNat i) x.fst) = x.snd + gTot szN x.fst ∧ AV.sl true (0 : Nat) (4 : Nat) Nd (ndA true) (gSt mkN szN x.snd x.fst i) = AV.sl true (0 : Nat) (4 : Nat) Nd (ndA true) (gMk mkN szN x.snd x.fst) ∧ True)) := by kernel_rfl
theorem markNds_ok  : Contract G Tryz.prog 16 s_markNds :=
  vcFun_ok (Γ := Γof [(39, 0, s_markInts), (59, 0, s_markText)]) (E := Eof []) (ov := false) (L := fun x => Lof ([(2,lMkNs x)])) Tryz.func16 rfl (by decide) (Γof_ok (l := [(39, 0, s_markInts), (59, 0, s_markText)]) ⟨markInts_ok, markText_ok, trivial⟩) fun (x : List Nd × Int) (hx : qgB szN x.1 ∧ 0 ≤ x.2 ∧ x.2 ≤ 2 ^ 50) => (markNds_vc  x).mpr (by
  obtain ⟨h1, h2, h3⟩ := hx
  (repeat' first | refine ex_nd _ _ (mkI _ _) _ rfl ?_ | refine ex_nd2 _ (mText _) _ _ ⟨rfl, ?_⟩ ⟨rfl, rfl⟩ | refine ex_nd2 _ _ _ _ ⟨rfl, ?_⟩ ⟨rfl, rfl⟩ | with_reducible rfl | exact True.intro | refine inR_i64 ?_ ?_ | with_reducible refine And.intro ?_ ?_ | with_reducible refine bcase_dec (fun _ => ?_) (fun _ => ?_) | with_reducible refine bcase_bne (fun _ => ?_) (fun _ => ?_) | with_reducible refine bcase_beq (fun _ => ?_) (fun _ => ?_) | with_reducible refine bcase_not (fun _ => ?_) (fun _ => ?_) | refine bcase_intro (fun _ => ?_) (fun _ => ?_) | refine sl_eq ?_ | refine ex_flip () ?_ ?_ | (apply ex_flip6 <;> try dsimp only) | (apply ex_flip5 <;> try dsimp only) | (apply ex_flip4 <;> try dsimp only) | (apply ex_flip3 <;> try dsimp only) | (apply ex_flip2 <;> try dsimp only) | apply ex_flip | (refine Prod.forall.2 ?_; intro _; try dsimp only) | (intro _; try dsimp only))
  all_goals (repeat (rename (List.set _ _ _)[_]? = some _ => hq; have e := gset hq; clear hq; subst e))
  all_goals (try (rename Nd => zz; obtain ⟨_, _, _, _⟩ := zz; dsimp only at *))
  all_goals (try simp only [List.length_set, List.set_set])
  all_goals first
    | rfl
    | exact gSt_0
    | exact ⟨h1, by omega, by omega⟩
    | (simp [gTot]; done)
    | exact (show qgI _ _ _ by assumption).2.1
    | assumption
    | exact (gSt_end (by assumption) (by assumption)).1
    | exact (gSt_end (by assumption) (by assumption)).2
    | exact gSt_step (by assumption) (by assumption) rfl
    | exact qgI_next (by assumption) (by assumption)
    | (have ht := gTot_step (k := x.2) (show qgI _ _ _ by assumption) (by assumption); rw [ht]; simp [szN]; omega)
    | (have hi := (show qgI _ _ _ by assumption); have hl := @gSt_len _ mkN szN x.2 _ _ hi; have ht := qgI_tot hi; have := hi.2.1; have := hi.2.2; have := h1.1; (try simp only [i64max]); omega)
    | (have hi := (show qgI _ _ _ by assumption); have hl := @gSt_len _ mkN szN x.2 _ _ hi; have ht := qgI_tot hi; have := hi.2.1; have := hi.2.2; have hg := qgI_sz hi (by assumption); simp only [szN] at hg; have := h1.1; (try simp only [i64max]); omega)
    | skip)

end Go.My
end
section
/- What is put anew is no greater than what was. -/
set_option linter.unusedVariables false
set_option linter.unusedSimpArgs false
namespace Go.My
open Go.Eng

theorem putN_all {ns : List Nd} {R : Rw} (hR : RwOk ns R) {p : Nd → Prop} (hpar : ∀ o, p (parNd o)) (hst : ∀ k x, R.stop k = some x → p x)
    (hnd : ∀ k ks, okUp ns k → ks.length = (ndAt ns k).kids.length → p ⟨(ndAt ns k).kind, (ndAt ns k).text, ks, (ndAt ns k).blank⟩) :
    ∀ {n : Nat} {k : Int} {out : List Nd}, okUp ns k → k < n → (∀ e ∈ out, p e) → ∀ e ∈ putN ns R n k out, p e
  | 0, k, out, h, hk, ho => by have := isNd_iff.1 h.1; omega
  | n + 1, k, out, h, hk, ho => by
    rw [putN]
    cases hs : R.stop k with
    | some x =>
      intro e he
      rcases List.mem_append.1 he with he | he
      · exact ho e he
      · simp at he; subst he; exact hst k _ hs
    | none =>
      simp only
      have key : ∀ (l : List Int) (i : Nat) (o : List Nd) (ks : List Int), (ndAt ns k).kids.drop i = l → (∀ e ∈ o, p e) → (∀ e ∈ (putK R (putN ns R n) k l i o ks).1, p e) ∧ (putK R (putN ns R n) k l i o ks).2.length = ks.length + l.length := by
        intro l
        induction l with
        | nil => intro i o ks _ ho; exact ⟨ho, by simp [putK]⟩
        | cons c l ih =>
          intro i o ks hd ho
          have hc : (ndAt ns k).kids[i]? = some c := by
            have := congrArg (fun l : List Int => l[0]?) hd
            simpa using this
          have hm := okUp_kid h (memE hc)
          obtain ⟨g1, g2, g3⟩ := hR n k i c h hc (by omega)
          have hp := putN_all hR hpar hst hnd (n := n) (k := R.tgt k i c) (out := o) g1 (by omega) ho
          have hd2 : (ndAt ns k).kids.drop (i + 1) = l := by
            rw [← List.drop_drop, hd]; rfl
          have hq : ∀ e ∈ put1 R (putN ns R n) k i c o, p e := by
            unfold put1
            split
            · intro e he
              rcases List.mem_append.1 he with he | he
              · exact hp e he
              · simp at he; subst he; exact hpar _
            · exact hp
          have := ih (i + 1) _ (ks ++ [((put1 R (putN ns R n) k i c o).length : Int) - 1]) hd2 hq
          rw [putK]
          have e : ((i : Int) + 1) = ((i + 1 : Nat) : Int) := by omega
          rw [e]
          refine ⟨this.1, ?_⟩
          rw [this.2]; simp; omega
      have := key (ndAt ns k).kids 0 out [] (by simp) ho
      intro e he
      rcases List.mem_append.1 he with he | he
      · exact this.1 e he
      · simp only [List.mem_singleton] at he
        rw [he]
        exact hnd k _ h (by have := this.2; simpa using this)
theorem gTot_nn {α : Type} (sz : α → Nat) : ∀ l : List α, 0 ≤ gTot sz l
  | [] => Int.le_refl 0
  | x :: l => by have := gTot_nn sz l; simp only [gTot]; omega
theorem mk_tot (l : List Nd) (k : Int) : gTot szN (gMk mkN szN k l) = gTot szN l := (gMk_idem szN_mk mkN_mk).2
theorem mk_idem (l : List Nd) (k : Int) : gMk mkN szN k l = gMk mkN szN k (gMk mkN szN k l) := (gMk_idem szN_mk mkN_mk).1.symm
def resB (l : List Nd) : Prop := l.length ≤ 1048576 ∧ ∀ e ∈ l, e.text.length ≤ 1048576 ∧ e.kids.length ≤ 1048576
theorem resB_of {l : List Nd} (h : ¬ szNds l 1048576 < 0) : resB l := by
  have := szNds_bd (l := l) (n := 1048576) (by omega) h
  exact ⟨by have := this.1; omega, fun e he => by have := this.2 e he; omega⟩
theorem resB_small {l : List Nd} (h : resB l) : smallNds l := ⟨by have := h.1; omega, fun e he => by have := h.2 e he; exact ⟨by omega, by omega⟩⟩
theorem resB_g {l : List Nd} (h : resB l) : qgB szN l := ⟨h.1, fun e he => by have := h.2 e he; simp [szN]; omega⟩
def kidsB' (l : List Nd) : Prop := l.length ≤ 2 ^ 30 ∧ ∀ e ∈ l, e.kids.length ≤ 2 ^ 30
theorem resB_kids {l : List Nd} (h : resB l) : kidsB' l := ⟨by have := h.1; omega, fun e he => by have := h.2 e he; omega⟩
theorem resB_ok {l : List Nd} (h : resB l) : okNds l := ⟨by have := h.1; omega, fun e he => by have := h.2 e he; exact ⟨by omega, by omega⟩⟩
theorem putN_resB {ns : List Nd} {R : Rw} (hR : RwOk ns R) (hst : ∀ k x, R.stop k = some x → x.text.length ≤ 1048576 ∧ x.kids.length ≤ 1048576) (ht : treeOk ns = true) (hb : resB ns) {n : Nat} (hn : 301 ≤ n) : resB (putN ns R n ((ns.length : Int) - 1) []) := by
  obtain ⟨h1, h2, h3, h4⟩ := tree1_of ht
  have hlen := putN_bd hR (n := n) (out := []) h4 (by omega)
  have hv := @vis_len ns n ht
  refine ⟨by simp at hlen; omega, ?_⟩
  refine putN_all hR (fun o => by simp [parNd]) hst (fun k ks hu hk => ?_) h4 (by omega) (fun e he => by cases he)
  have hr := isNd_iff.1 hu.1
  have e : ns[k.toNat]? = some ns[k.toNat] := by simp
  have hm := hb.2 _ (memE e)
  rw [ndAt_of e] at hk ⊢
  exact ⟨hm.1, by rw [hk]; exact hm.2⟩
end Go.My
end
section
/- Members in order, plainly. -/
set_option linter.unusedVariables false
set_option linter.unusedSimpArgs false
namespace Go.My
open Go.Eng

def gk (g : Gr) : List Int := g.notes ++ (if 0 ≤ g.member then [g.member] else [])
def ordK (ns : List Nd) : List Int := (orderedG ns).flatMap gk
theorem grp_flat {ns : List Nd} : ∀ {l notes : List Int}, (∀ c ∈ l, 0 ≤ c) → (grp ns l notes).flatMap gk = notes ++ l
  | [], notes, _ => by
    unfold grp
    split
    · simp [gk]
    · rename_i h
      have : notes = [] := List.length_eq_zero_iff.1 (by omega)
      simp [this]
  | c :: l, notes, h => by
    unfold grp
    have hl : ∀ d ∈ l, 0 ≤ d := fun d hd => h d (by simp [hd])
    split
    · rw [grp_flat hl]; simp
    · rw [List.flatMap_cons, grp_flat hl]
      have hc := h c (by simp)
      simp [gk, hc]
theorem ordK_perm {ns : List Nd} (h : treeOk ns = true) : (ordK ns).Perm (fileKids ns) := by
  have h1 : (orderedG ns).Perm (groupsOf ns) := isort_perm
  have h2 : (groupsOf ns).flatMap gk = fileKids ns := by
    rw [groupsOf, if_pos h, grp_flat (fun c hc => ((fileKids_ok h).2 c hc).1)]; rfl
  rw [← h2]
  exact h1.flatMap_right gk
def blankOff (x : Nd) : Nd := ⟨x.kind, x.text, x.kids, false⟩
def ordR (ns : List Nd) : Nd := ⟨(ndAt ns (ns.length - 1)).kind, (ndAt ns (ns.length - 1)).text, ordK ns, (ndAt ns (ns.length - 1)).blank⟩
def ordN1 (ns : List Nd) : List Nd := ns.set (ns.length - 1) (ordR ns)
def ordT (ns : List Nd) : List Nd := match ordK ns with
  | [] => ordN1 ns
  | c :: _ => (ordN1 ns).set c.toNat (blankOff (ndAt ns c))
theorem ordT_len {ns : List Nd} : (ordT ns).length = ns.length := by
  unfold ordT ordN1
  split <;> simp
theorem ndAt_set {l : List Nd} {i : Nat} {x : Nd} {k : Int} : ndAt (l.set i x) k = if i = k.toNat ∧ i < l.length then x else ndAt l k := by
  unfold ndAt
  rw [List.getD_eq_getElem?_getD, List.getD_eq_getElem?_getD, List.getElem?_set]
  by_cases h : i = k.toNat
  · subst h
    by_cases h2 : k.toNat < l.length
    · simp [h2]
    · simp [h2]
  · simp [h]
theorem ordK_mem {ns : List Nd} (h : treeOk ns = true) {c : Int} : c ∈ ordK ns ↔ c ∈ fileKids ns := (ordK_perm h).mem_iff
theorem ordT_at {ns : List Nd} (h : treeOk ns = true) {k : Int} (h0 : 0 ≤ k) (h1 : k < ns.length) :
    ndAt (ordT ns) k = if k = (ns.length : Int) - 1 then ordR ns else if (ordK ns).head? = some k then blankOff (ndAt ns k) else ndAt ns k := by
  have ht := (tree1_of h).2.1
  unfold ordT
  split
  · rename_i e
    rw [ordN1, ndAt_set, e]
    by_cases hk : k = (ns.length : Int) - 1
    · rw [if_pos ⟨by omega, by omega⟩, if_pos hk]
    · rw [if_neg (by omega), if_neg hk]; simp
  · rename_i c l e
    have hc : c ∈ fileKids ns := (ordK_mem h).1 (by rw [e]; simp)
    have hcr := (fileKids_ok h).2 c hc
    rw [ndAt_set, ordN1, ndAt_set, e, List.length_set]
    by_cases hk : k = (ns.length : Int) - 1
    · rw [if_neg (by omega), if_pos ⟨by omega, by omega⟩, if_pos hk]
    · by_cases hkc : c = k
      · subst hkc
        rw [if_pos ⟨rfl, by omega⟩, if_neg hk]; simp
      · rw [if_neg (by omega), if_neg (by omega), if_neg hk]
        simp [hkc]
theorem ordT_root {ns : List Nd} (h : treeOk ns = true) : ndAt (ordT ns) ((ns.length : Int) - 1) = ordR ns := by
  have ht := (tree1_of h).2.1
  rw [ordT_at h (by omega) (by omega), if_pos rfl]
theorem ordT_kind {ns : List Nd} (h : treeOk ns = true) {k : Int} (h0 : 0 ≤ k) (h1 : k < ns.length) : kindAt (ordT ns) k = kindAt ns k := by
  unfold kindAt
  rw [ordT_at h h0 h1]
  split
  · rename_i e; subst e; rfl
  · split <;> rfl
theorem ordT_low {ns : List Nd} (h : treeOk ns = true) {k : Int} (h0 : 0 ≤ k) (h1 : k < (ns.length : Int) - 1) : (ndAt (ordT ns) k).kind = (ndAt ns k).kind ∧ (ndAt (ordT ns) k).text = (ndAt ns k).text ∧ (ndAt (ordT ns) k).kids = (ndAt ns k).kids ∧ ((ndAt (ordT ns) k).blank = (ndAt ns k).blank ∨ (ndAt (ordT ns) k).blank = false) := by
  rw [ordT_at h h0 (by omega), if_neg (by omega)]
  split
  · exact ⟨rfl, rfl, rfl, .inr rfl⟩
  · exact ⟨rfl, rfl, rfl, .inl rfl⟩
theorem ordT_nodeOk {ns : List Nd} (h : treeOk ns = true) {k : Int} (h0 : 0 ≤ k) (h1 : k < (ns.length : Int)) : nodeOk (ordT ns) k = true := by
  have ht := tree1_of h
  have hup : okUp ns k := ⟨isNd_iff.2 ⟨h0, h1⟩, fun i hi => ht.1.1 i (by omega)⟩
  have hok := okUp_at hup
  have hin : isNd (ordT ns) k = true := isNd_iff.2 ⟨h0, by rw [ordT_len]; exact h1⟩
  rw [nodeOk, hin, Bool.true_and]
  have hp := nodeOk_parts hok
  have hb : (mayBlank (ndAt ns k).kind || !(ndAt ns k).blank) = true := by
    simp only [nodeOk, nodeOk1, Bool.and_eq_true] at hok; exact hok.2.2.2.2.2.2
  by_cases hk : k = (ns.length : Int) - 1
  · subst hk
    rw [ordT_root h]
    have hperm := ordK_perm h
    have hk22 : (ndAt ns ((ns.length : Int) - 1)).kind = 22 := by
      simp only [treeOk, Bool.and_eq_true, decide_eq_true_eq] at h; exact h.2.1
    have hkinds := hp.2.2.2.2.2.1
    have htop : ∀ c ∈ fileKids ns, isTop (kindAt ns c) = true := by
      rw [hk22] at hkinds
      simp only [kindsOk, Int.reduceEq, or_self, if_false, if_true, reduceIte, List.all_map, List.all_eq_true, Function.comp] at hkinds
      exact fun c hc => hkinds c hc
    have hmem : ∀ c ∈ ordK ns, 0 ≤ c ∧ c < (ns.length : Int) - 1 := fun c hc => (fileKids_ok h).2 c ((ordK_mem h).1 hc)
    have e1 : kindsOk 22 ((ordK ns).map (kindAt (ordT ns))) = true := by
      simp only [kindsOk, Int.reduceEq, or_self, if_false, if_true, reduceIte, List.all_map, List.all_eq_true, Function.comp]
      intro c hc
      have := hmem c hc
      rw [ordT_kind h (by omega) (by omega)]
      exact htop c ((ordK_mem h).1 hc)
    have e2 : callsOk (ordT ns) (ordR ns) = true := by
      simp only [callsOk, List.all_eq_true]
      rintro ⟨c, i⟩ hci
      have hc : c ∈ ordK ns := by
        have := List.mem_zipIdx hci
        obtain ⟨_, _, e⟩ := this
        rw [e]; exact List.getElem_mem _
      have hr := hmem c hc
      have ht2 := htop c ((ordK_mem h).1 hc)
      rw [callOk]
      have hne : (ndAt (ordT ns) c).kind ≠ 5 := by
        have e3 : (ndAt (ordT ns) c).kind = kindAt ns c := ordT_kind h (by omega) (by omega)
        rw [e3]
        intro e5
        rw [e5] at ht2; cases ht2
      simp only [if_neg hne]
    simp only [nodeOk1, Bool.and_eq_true, decide_eq_true_eq]
    refine ⟨show (ordK ns).length ≤ 12 by rw [hperm.length_eq]; exact hp.2.1, hp.2.2.1, ⟨?_, show (ordK ns).Nodup from hperm.nodup_iff.2 hp.2.2.2.2.1⟩, show kindsOk (ndAt ns ((ns.length : Int) - 1)).kind ((ordK ns).map (kindAt (ordT ns))) = true by rw [hk22]; exact e1, e2, hb⟩
    simp only [kidsIn, List.all_eq_true, Bool.and_eq_true, decide_eq_true_eq]
    exact hmem
  · obtain ⟨g1, g2, g3, g4⟩ := ordT_low h h0 (by omega)
    have hr : ∀ c ∈ (ndAt ns k).kids, 0 ≤ c ∧ c < k := hp.2.2.2.1
    simp only [nodeOk1, g1, g2, g3, Bool.and_eq_true, decide_eq_true_eq]
    have e1 : (ndAt ns k).kids.map (kindAt (ordT ns)) = (ndAt ns k).kids.map (kindAt ns) := by
      refine List.map_congr_left fun c hc => ?_
      have := hr c hc
      exact ordT_kind h (by omega) (by omega)
    have e2 : callsOk (ordT ns) (ndAt (ordT ns) k) = callsOk ns (ndAt ns k) := by
      simp only [callsOk, g3]
      rw [Bool.eq_iff_iff]
      simp only [List.all_eq_true]
      have key : ∀ p ∈ (ndAt ns k).kids.zipIdx, callOk (ordT ns) (ndAt (ordT ns) k) p.2 p.1 = callOk ns (ndAt ns k) p.2 p.1 := by
        rintro ⟨c, i⟩ hci
        have hc : c ∈ (ndAt ns k).kids := by
          have := List.mem_zipIdx hci
          obtain ⟨_, _, e⟩ := this
          rw [e]; exact List.getElem_mem _
        have hcr := hr c hc
        obtain ⟨q1, q2, q3, q4⟩ := ordT_low h (k := c) (by omega) (by omega)
        have hcup := (okUp_kid hup hc).1
        unfold callOk
        simp only [q1, q3, g1]
        split
        · split
          · rfl
          · rename_i hh t e
            have hm : hh ∈ (ndAt ns c).kids := by rw [e]; simp
            have := (okUp_kid hcup hm).2
            rw [ordT_kind h (by omega) (by omega)]
            simp only [isNd, ordT_len]
        · rfl
      exact ⟨fun hh p hp => (key p hp) ▸ hh p hp, fun hh p hp => (key p hp).symm ▸ hh p hp⟩
    rw [e1, e2]
    refine ⟨hp.2.1, hp.2.2.1, ⟨?_, hp.2.2.2.2.1⟩, hp.2.2.2.2.2.1, hp.2.2.2.2.2.2, ?_⟩
    · simp only [kidsIn, List.all_eq_true, Bool.and_eq_true, decide_eq_true_eq]; exact hr
    · rcases g4 with g4 | g4
      · rw [g4]; exact hb
      · rw [g4]; simp
theorem ordT_up {ns : List Nd} (h : treeOk ns = true) {k : Int} (h0 : 0 ≤ k) (h1 : k < (ns.length : Int)) : okUp (ordT ns) k :=
  ⟨isNd_iff.2 ⟨h0, by rw [ordT_len]; exact h1⟩, fun i hi => ordT_nodeOk h (by omega) (by omega)⟩
theorem ordT_vis {ns : List Nd} (h : treeOk ns = true) : ∀ {n : Nat} {k : Int}, okUp ns k → k < (ns.length : Int) - 1 → vis (ordT ns) n k = vis ns n k
  | 0, k, _, _ => rfl
  | n + 1, k, hu, hk => by
    have hr := isNd_iff.1 hu.1
    rw [vis, vis]
    have e : kidsOf (ordT ns) k = kidsOf ns k := by rw [kidsOf, kidsOf, (ordT_low h hr.1 hk).2.2.1]
    rw [e]
    congr 1
    have : ∀ l : List Int, (∀ c ∈ l, c ∈ (ndAt ns k).kids) → l.flatMap (vis (ordT ns) n) = l.flatMap (vis ns n) := by
      intro l
      induction l with
      | nil => intro _; rfl
      | cons c l ih =>
        intro hl
        have hm := okUp_kid hu (hl c (by simp))
        rw [List.flatMap_cons, List.flatMap_cons, ordT_vis h hm.1 (by omega), ih (fun d hd => hl d (by simp [hd]))]
    exact this _ fun c hc => hc
def rId : Rw := ⟨fun _ => none, fun _ _ c => c, fun _ _ _ => false⟩
theorem rId_ok {ns : List Nd} : RwOk ns rId := by
  intro n k i c hu hc hn
  exact ⟨(okUp_kid hu (memE hc)).1, Int.le_refl _, by simp [rId]⟩
theorem putN_id {ns : List Nd} {n : Nat} {k : Int} {out : List Nd} : putN ns rId (n + 1) k out = (putK rId (putN ns rId n) k (ndAt ns k).kids 0 out []).1 ++ [⟨(ndAt ns k).kind, (ndAt ns k).text, (putK rId (putN ns rId n) k (ndAt ns k).kids 0 out []).2, (ndAt ns k).blank⟩] := by rw [putN]; rfl
theorem putK_cong {f g : Int → List Nd → List Nd} {k : Int} : ∀ {l : List Int} {i : Int} {out : List Nd} {ks : List Int}, (∀ c ∈ l, ∀ o, f c o = g c o) → putK rId f k l i out ks = putK rId g k l i out ks
  | [], i, out, ks, _ => rfl
  | c :: l, i, out, ks, h => by
    have e : put1 rId f k i c out = put1 rId g k i c out := by
      show f c out = g c out
      exact h c (by simp) out
    rw [putK, putK, e]
    exact putK_cong fun d hd => h d (by simp [hd])
theorem self_vis {ns : List Nd} {n : Nat} {k : Int} (h : k < n) (h0 : 0 ≤ k) : k ∈ vis ns n k := by
  match n, h with
  | 0, h => omega
  | n + 1, _ => rw [vis]; simp
theorem vis_le {ns : List Nd} : ∀ {n : Nat} {k d : Int}, okUp ns k → d ∈ vis ns n k → 0 ≤ d ∧ d ≤ k
  | 0, k, d, h, hd => by cases hd
  | n + 1, k, d, h, hd => by
    have hr := isNd_iff.1 h.1
    rw [vis] at hd
    rcases List.mem_cons.1 hd with hd | hd
    · omega
    · obtain ⟨c, hc, hd⟩ := List.mem_flatMap.1 hd
      have hm := okUp_kid h hc
      have := vis_le hm.1 hd
      omega
/- away from the first member nothing has changed -/
theorem ordT_put {ns : List Nd} (h : treeOk ns = true) : ∀ {n : Nat} {k : Int} {out : List Nd}, okUp ns k → k < n → k < (ns.length : Int) - 1 → (∀ d ∈ vis ns n k, (ordK ns).head? ≠ some d) → putN (ordT ns) rId n k out = putN ns rId n k out
  | 0, k, out, hu, hk, _, _ => rfl
  | n + 1, k, out, hu, hn, hk, hv => by
    have hr := isNd_iff.1 hu.1
    have e : ndAt (ordT ns) k = ndAt ns k := by
      rw [ordT_at h hr.1 hr.2, if_neg (by omega), if_neg (hv k (self_vis hn hr.1))]
    rw [putN_id, putN_id, e, putK_cong (g := putN ns rId n)]
    intro c hc o
    have hm := okUp_kid hu hc
    refine ordT_put h hm.1 (by omega) (by omega) fun d hd => hv d ?_
    rw [vis]
    exact List.mem_cons_of_mem _ (List.mem_flatMap.2 ⟨c, hc, hd⟩)
/- the first member: its blank is gone -/
def offLast (l : List Nd) : List Nd := l.set (l.length - 1) (blankOff (l.getD (l.length - 1) ⟨0, [], [], false⟩))
theorem offLast_snoc {l : List Nd} {x : Nd} : offLast (l ++ [x]) = l ++ [blankOff x] := by
  unfold offLast
  have e : (l ++ [x]).length - 1 = l.length := by simp
  rw [e, List.getD_eq_getElem?_getD, List.getElem?_append_right (Nat.le_refl _), List.set_append]
  simp
theorem ordT_first {ns : List Nd} (h : treeOk ns = true) {n : Nat} {k : Int} {out : List Nd} (hk : (ordK ns).head? = some k) (hn : k < n) : putN (ordT ns) rId n k out = offLast (putN ns rId n k out) := by
  have hc : k ∈ fileKids ns := (ordK_mem h).1 (List.mem_of_mem_head? (by rw [hk]; simp))
  have hcr := (fileKids_ok h).2 k hc
  have hu : okUp ns k := (okUp_kid (tree1_of h).2.2.2 hc).1
  match n, hn with
  | 0, hn => omega
  | n + 1, hn =>
    have e : ndAt (ordT ns) k = blankOff (ndAt ns k) := by
      rw [ordT_at h (by omega) (by omega), if_neg (by omega), if_pos hk]
    rw [putN_id, putN_id, offLast_snoc, e]
    have e2 : putK rId (putN (ordT ns) rId n) k (blankOff (ndAt ns k)).kids 0 out [] = putK rId (putN ns rId n) k (ndAt ns k).kids 0 out [] := by
      show putK rId (putN (ordT ns) rId n) k (ndAt ns k).kids 0 out [] = _
      refine putK_cong fun c hc o => ?_
      have hm := okUp_kid hu hc
      refine ordT_put h hm.1 (by omega) (by omega) fun d hd hh => ?_
      rw [hk] at hh
      have h3 := vis_le hm.1 hd
      have h4 := Option.some.inj hh
      omega
    rw [e2]; rfl
/- one member after another -/
def oStep (ns : List Nd) (m : Nat) (s : List Nd × List Int) (c : Int) : List Nd × List Int :=
  (if s.2 = [] then offLast (putN ns rId m c s.1) else putN ns rId m c s.1, s.2 ++ [((putN ns rId m c s.1).length : Int) - 1])
theorem offLast_len {l : List Nd} : (offLast l).length = l.length := by simp [offLast]
theorem fmc_perm {g : Int → List Int} : ∀ {l : List Int}, (l.flatMap fun k => k :: g k).Perm (l ++ l.flatMap g)
  | [] => List.Perm.refl _
  | k :: l => by
    rw [List.flatMap_cons, List.flatMap_cons, List.cons_append, List.cons_append]
    refine List.Perm.cons _ ?_
    exact (List.Perm.append_left _ (fmc_perm (l := l))).trans (List.perm_append_comm_assoc _ _ _)
theorem visL_perm {ns : List Nd} : ∀ {n : Nat} {l : List Int}, (l.flatMap (vis ns n)).Perm (WL ns n l)
  | 0, l => by
    have : l.flatMap (vis ns 0) = [] := by simp [vis]
    rw [this]; exact List.Perm.refl _
  | n + 1, l => by
    rw [WL]
    have e : vis ns (n + 1) = fun k => k :: (kidsOf ns k).flatMap (vis ns n) := by funext k; rfl
    rw [e]
    refine fmc_perm.trans (List.Perm.append_left _ ?_)
    rw [← List.flatMap_assoc]
    exact visL_perm
theorem root_vis {ns : List Nd} (h : treeOk ns = true) {n : Nat} : ((fileKids ns).flatMap (vis ns n)).Nodup ∧ ((fileKids ns).flatMap (vis ns n)).length ≤ 300 := by
  obtain ⟨h1, h2, h3, h4⟩ := tree1_of h
  have hv := @vis_len ns (n + 1) h
  rw [vis_succ] at hv
  refine ⟨?_, by simp only [visK, kidsOf] at hv; simp only [fileKids]; omega⟩
  have e := @visL_perm ns (n + 1) [(ns.length : Int) - 1]
  have hd := (WL_nodup h1 h2 (n + 1)).1
  rw [← e.nodup_iff] at hd
  simp only [List.flatMap_cons, List.flatMap_nil, List.append_nil, vis] at hd
  exact (List.nodup_cons.1 hd).2
theorem ord_vis {ns : List Nd} (h : treeOk ns = true) {n : Nat} : ((ordK ns).flatMap (vis ns n)).Nodup ∧ ((ordK ns).flatMap (vis ns n)).length ≤ 300 := by
  have hp := (ordK_perm h).flatMap_right (vis ns n)
  have := @root_vis ns h n
  exact ⟨hp.nodup_iff.2 this.1, by rw [hp.length_eq]; exact this.2⟩
theorem ord_rest {ns : List Nd} (h : treeOk ns = true) {c d : Int} {l l1 : List Int} {n : Nat} (he : ordK ns = c :: l) (hl : d ∈ l) (hn : (ns.length : Int) ≤ n) : ∀ e ∈ vis ns n d, (ordK ns).head? ≠ some e := by
  intro e hev hh
  rw [he] at hh
  have hce : c = e := by simpa using hh
  subst hce
  have hd := (@ord_vis ns h n).1
  rw [he, List.flatMap_cons, List.nodup_append] at hd
  have hc : c ∈ fileKids ns := (ordK_mem h).1 (by rw [he]; simp)
  have hcr := (fileKids_ok h).2 c hc
  exact hd.2.2 c (self_vis (by omega) (by omega)) c (List.mem_flatMap.2 ⟨d, hl, hev⟩) rfl
theorem oFold_ne {ns : List Nd} {m : Nat} : ∀ {l : List Int} {k i : Int} {out : List Nd} {ks : List Int} {f : Int → List Nd → List Nd}, ks ≠ [] → (∀ c ∈ l, ∀ o, f c o = putN ns rId m c o) → putK rId f k l i out ks = l.foldl (oStep ns m) (out, ks)
  | [], k, i, out, ks, f, _, _ => rfl
  | c :: l, k, i, out, ks, f, hks, hf => by
    have e : put1 rId f k i c out = putN ns rId m c out := hf c (by simp) out
    rw [putK, e, List.foldl_cons]
    have e2 : oStep ns m (out, ks) c = (putN ns rId m c out, ks ++ [((putN ns rId m c out).length : Int) - 1]) := by
      simp only [oStep, if_neg hks]
    rw [e2]
    exact oFold_ne (by simp) fun d hd => hf d (by simp [hd])
theorem ordT_fold {ns : List Nd} (h : treeOk ns = true) {m : Nat} (hm : (ns.length : Int) ≤ m) : putK rId (putN (ordT ns) rId m) ((ns.length : Int) - 1) (ordK ns) 0 [] [] = (ordK ns).foldl (oStep ns m) ([], []) := by
  match e : ordK ns with
  | [] => rfl
  | c :: l =>
    have hc : c ∈ fileKids ns := (ordK_mem h).1 (by rw [e]; simp)
    have hcr := (fileKids_ok h).2 c hc
    have e1 : put1 rId (putN (ordT ns) rId m) ((ns.length : Int) - 1) 0 c [] = offLast (putN ns rId m c []) := by
      show putN (ordT ns) rId m c [] = _
      exact ordT_first h (by rw [e]; rfl) (by omega)
    rw [putK, e1, List.foldl_cons]
    have e2 : oStep ns m ([], []) c = (offLast (putN ns rId m c []), [((putN ns rId m c []).length : Int) - 1]) := by simp [oStep]
    rw [e2, offLast_len]
    refine oFold_ne (by simp) fun d hd o => ?_
    have hdk : d ∈ fileKids ns := (ordK_mem h).1 (by rw [e]; simp [hd])
    have hdr := (fileKids_ok h).2 d hdk
    have hu : okUp ns d := (okUp_kid (tree1_of h).2.2.2 hdk).1
    exact ordT_put h hu (by omega) (by omega) (ord_rest (l1 := []) h e hd hm)
def orderedT (ns : List Nd) : List Nd := if treeOk ns then putN (ordT ns) rId bigN (ns.length - 1) [] else ns
theorem ordT_end {ns : List Nd} (h : treeOk ns = true) {m : Nat} (hm : (ns.length : Int) ≤ m) (hb : bigN = m + 1) : orderedT ns = ((ordK ns).foldl (oStep ns m) ([], [])).1 ++ [⟨22, [], ((ordK ns).foldl (oStep ns m) ([], [])).2, false⟩] := by
  have ht := (tree1_of h).2.2.2
  have hp := nodeOk_parts (okUp_at ht)
  have hk22 : (ndAt ns ((ns.length : Int) - 1)).kind = 22 := by
    simp only [treeOk, Bool.and_eq_true, decide_eq_true_eq] at h; exact h.2.1
  have htx : (ndAt ns ((ns.length : Int) - 1)).text = [] := by
    have := hp.2.2.1
    rw [hk22] at this
    simpa [textOk] using this
  have hbl : (ndAt ns ((ns.length : Int) - 1)).blank = false := by
    have hok := okUp_at ht
    simp only [nodeOk, nodeOk1, Bool.and_eq_true] at hok
    have := hok.2.2.2.2.2.2
    rw [hk22] at this
    simpa [mayBlank, isStep, isMem, inn] using this
  rw [orderedT, if_pos h, hb, putN_id, ordT_root h]
  simp only [ordR, hk22, htx, hbl]
  rw [ordT_fold h hm]
/- room on the way -/
theorem oFold_len {ns : List Nd} {m : Nat} : ∀ {l : List Int} {s : List Nd × List Int}, (∀ c ∈ l, okUp ns c ∧ c < m) → (l.foldl (oStep ns m) s).1.length ≤ s.1.length + 2 * (l.flatMap (vis ns m)).length ∧ (l.foldl (oStep ns m) s).2.length = s.2.length + l.length
  | [], s, _ => by simp
  | c :: l, s, h => by
    have hc := h c (by simp)
    have hb := putN_bd (@rId_ok ns) (n := m) (k := c) (out := s.1) hc.1 hc.2
    have ih := @oFold_len ns m l (oStep ns m s c) fun d hd => h d (by simp [hd])
    have h1 : (oStep ns m s c).1.length = (putN ns rId m c s.1).length := by
      simp only [oStep]; split
      · exact offLast_len
      · rfl
    have h2 : (oStep ns m s c).2.length = s.2.length + 1 := by simp [oStep]
    rw [h1, h2] at ih
    rw [List.foldl_cons, List.flatMap_cons, List.length_append, List.length_cons]
    omega
end Go.My
end
section
/- Members in order: the functions. -/
set_option linter.unusedVariables false
set_option linter.unusedSimpArgs false
set_option maxHeartbeats 8000000
namespace Go.My
open Go.Eng Go.Proofs
variable {G : GInv}

def hnds (l : List Nd) : AV := .sl true 0 4 Nd (ndA false) l
def s_copyNodesH  : Sig := { X := List Nd, args := fun x => [nds x], pre := fun x => kidsB x, Y := Unit, post := fun x y => True, res := fun x y => hnds x, outs := fun x y => [.top], keep := true }
theorem copyNodesH_vc (x : List Nd) : vcFun Go.Proofs.Tryz.prog (Γof [(111, 0, s_clone)]) (Eof [(24, ⟨Nd,ndA false⟩)]) false (Lof ([(3,{ ι := Int, inv := fun i => 0 ≤ i ∧ i ≤ x.length, regs := fun i => [(3, hnds (x.take i.toNat)), (6, nds x), (7, .int .i64 x.length), (8, .int .i64 i)], als := [], meas := fun i => x.length - i.toNat })])) Go.Proofs.Tryz.f53.ntmps Go.Proofs.Tryz.f53.results.toList (Go.Proofs.Tryz.f53.body.getD .skip) s_copyNodesH x = (True ∧ (∃ (i : Int), ((0 : Int) ≤ i ∧ i ≤ (↑(List.length x) : Int)) ∧ (List.take (Int.toNat i) x = [] ∧ AV.sl false (0 : Nat) (4 : Nat) Nd (ndA false) x = AV.sl false (0 : Nat) (4 : Nat) Nd (ndA false) x ∧ (↑(List.length x) : Int) = (↑(List.length x) : Int) ∧ (0 : Int) = i ∧ True) ∧ True) ∧ ∀ (i : Int), (0 : Int) ≤ i ∧ i ≤ (↑(List.length x) : Int) → bcase (decide (i < (↑(List.length x) : Int))) (((0 : Int) ≤ i ∧ i < (↑(List.length x) : Int)) ∧ ∀ (e : Nd), x[Int.toNat i]? = some e → ∃ (x_1 : List Int), List.length x_1 ≤ (1099511627776 : Nat) ∧ AV.sl false (0 : Nat) (1 : Nat) Int intA e.kids = AV.sl false (0 : Nat) (1 : Nat) Int intA x_1 ∧ ∀ (y : Unit), True → ∃ (x_2 : Nd), e.kind = x_2.kind ∧ e.text = x_2.text ∧ AV.sl false (0 : Nat) (1 : Nat) Int (fun (x : Int) => fzL (intA x)) x_1 = AV.sl false (0 : Nat) (1 : Nat) Int intA x_2.kids ∧ e.blank = x_2.blank ∧ ∃ (zs : List Nd), AV.sl true (0 : Nat) (4 : Nat) Nd (ndA false) [x_2] = AV.sl true (0 : Nat) (4 : Nat) Nd (ndA false) zs ∧ leafy (ndA false) ∧ room (List.length (List.take (Int.toNat i) x) + List.length zs) (56 : Nat) ∧ inR IntKind.i64 (i + (1 : Int)) ∧ ∃ (i' : Int), ((0 : Int) ≤ i' ∧ i' ≤ (↑(List.length x) : Int)) ∧ List.length x - Int.toNat i' < List.length x - Int.toNat i ∧ (AV.sl true (0 : Nat) (4 : Nat) Nd (ndA false) (List.take (Int.toNat i) x ++ zs) = AV.sl true (0 : Nat) (4 : Nat) Nd (ndA false) (List.take (Int.toNat i') x) ∧ AV.sl false (0 : Nat) (4 : Nat) Nd (ndA false) x = AV.sl false (0 : Nat) (4 : Nat) Nd (ndA false) x ∧ (↑(List.length x) : Int) = (↑(List.length x) : Int) ∧ i + (1 : Int) = i' ∧ True) ∧ True) (∃ (y : Unit), True ∧ AV.sl true (0 : Nat) (4 : Nat) Nd (ndA false) (List.take (Int.toNat i) x) = AV.sl true (0 : Nat) (4 : Nat) Nd (ndA false) x ∧ True)) := by kernel_rfl
theorem copyNodesH_ok  : Contract G Tryz.prog 53 s_copyNodesH :=
  vcFun_ok (Γ := Γof [(111, 0, s_clone)]) (E := Eof [(24, ⟨Nd,ndA false⟩)]) (ov := false) (L := fun x => Lof ([(3,{ ι := Int, inv := fun i => 0 ≤ i ∧ i ≤ x.length, regs := fun i => [(3, hnds (x.take i.toNat)), (6, nds x), (7, .int .i64 x.length), (8, .int .i64 i)], als := [], meas := fun i => x.length - i.toNat })])) Tryz.func53 rfl (by decide) (Γof_ok (l := [(111, 0, s_clone)]) ⟨clone_ok, trivial⟩) fun (x : List Nd) (hx : kidsB x) => (copyNodesH_vc  x).mpr (by
  obtain ⟨h1, h2⟩ := hx
  (repeat' first | with_reducible rfl | exact True.intro | refine inR_i64 ?_ ?_ | with_reducible refine And.intro ?_ ?_ | with_reducible refine bcase_dec (fun _ => ?_) (fun _ => ?_) | with_reducible refine bcase_bne (fun _ => ?_) (fun _ => ?_) | with_reducible refine bcase_beq (fun _ => ?_) (fun _ => ?_) | with_reducible refine bcase_not (fun _ => ?_) (fun _ => ?_) | refine bcase_intro (fun _ => ?_) (fun _ => ?_) | refine sl_eq ?_ | refine ex_flip () ?_ ?_ | (apply ex_flip6 <;> try dsimp only) | (apply ex_flip5 <;> try dsimp only) | (apply ex_flip4 <;> try dsimp only) | (apply ex_flip3 <;> try dsimp only) | (apply ex_flip2 <;> try dsimp only) | apply ex_flip | (refine Prod.forall.2 ?_; intro _; try dsimp only) | (intro _; try dsimp only))
  all_goals first
    | rfl
    | exact take_next (And.left (by assumption)) (by assumption)
    | exact take_end (by assumption)
    | (have hk := h2 _ (memE (show x[Int.toNat _]? = some _ by assumption)); omega)
    | ((try simp only [i64max, room, List.length_take, List.length_cons, List.length_nil]); omega)
    | skip)

def clO : AV := .clo (.func 75) []
def s_ord1  : Sig := { X := Nd × Int × Int, args := fun x => [.agg (ndA false x.1), .int .i64 x.2.1, .int .i64 x.2.2], pre := fun x => True, Y := Unit, post := fun x y => True, res := fun x y => .tup [.int .i64 x.2.2, .bool false], outs := fun x y => [.top, .top, .top], keep := false }
theorem ord1_vc (x : Nd × Int × Int) : vcFun Go.Proofs.Tryz.prog (Γof []) (Eof []) false (Lof ([])) Go.Proofs.Tryz.f75.ntmps Go.Proofs.Tryz.f75.results.toList (Go.Proofs.Tryz.f75.body.getD .skip) s_ord1 x = ((∀ (y : Unit), True → (True ∧ True ∧ True) ∧ True ∧ True ∧ True ∧ True) ∧ ∃ (y : Unit), True ∧ x.snd.snd = x.snd.snd ∧ false = false ∧ True) := by kernel_rfl
theorem ord1_ok  : Contract G Tryz.prog 75 s_ord1 :=
  vcFun_ok (Γ := Γof []) (E := Eof []) (ov := false) (L := fun x => Lof ([])) Tryz.func75 rfl (by decide) (Γof_ok (l := []) trivial) fun (x : Nd × Int × Int) (hx : True) => (ord1_vc  x).mpr (by
  (repeat' first | with_reducible rfl | exact True.intro | refine inR_i64 ?_ ?_ | with_reducible refine And.intro ?_ ?_ | with_reducible refine bcase_dec (fun _ => ?_) (fun _ => ?_) | with_reducible refine bcase_bne (fun _ => ?_) (fun _ => ?_) | with_reducible refine bcase_beq (fun _ => ?_) (fun _ => ?_) | with_reducible refine bcase_not (fun _ => ?_) (fun _ => ?_) | refine bcase_intro (fun _ => ?_) (fun _ => ?_) | refine sl_eq ?_ | refine ex_flip () ?_ ?_ | (apply ex_flip6 <;> try dsimp only) | (apply ex_flip5 <;> try dsimp only) | (apply ex_flip4 <;> try dsimp only) | (apply ex_flip3 <;> try dsimp only) | (apply ex_flip2 <;> try dsimp only) | apply ex_flip | (refine Prod.forall.2 ?_; intro _; try dsimp only) | (intro _; try dsimp only)) <;> (try dsimp only at *) <;> (try simp only [i64max, List.length_cons, List.length_nil]) <;> (try omega))

def s_mAddO  : Sig := { X := List Nd × List Nd × Int × List UInt8 × List Int × Bool, args := fun x => [.box 0 [nds x.1, onds x.2.1, clO], .agg (ndA true ⟨x.2.2.1, x.2.2.2.1, x.2.2.2.2.1, x.2.2.2.2.2⟩)], pre := fun x => x.2.1.length ≤ 2 ^ 21, Y := Unit, post := fun x y => True, res := fun x y => .int .i64 x.2.1.length, outs := fun x y => [.box 0 [nds x.1, onds (x.2.1 ++ [⟨x.2.2.1, x.2.2.2.1, x.2.2.2.2.1, x.2.2.2.2.2⟩]), clO], .top], keep := true }
theorem mAddO_vc (x : List Nd × List Nd × Int × List UInt8 × List Int × Bool) : vcFun Go.Proofs.Tryz.prog (Γof []) (Eof [(24, ⟨Nd,ndA true⟩)]) false (Lof ([(100001,{ ι := Unit, inv := fun _ => True, regs := fun _ => [(0, .box 0 [nds x.1, onds (x.2.1 ++ [⟨x.2.2.1, x.2.2.2.1, x.2.2.2.2.1, x.2.2.2.2.2⟩]), clO])], als := [], meas := fun _ => 0 })])) Go.Proofs.Tryz.f115.ntmps Go.Proofs.Tryz.f115.results.toList (Go.Proofs.Tryz.f115.body.getD .skip) s_mAddO x = (True ∧ true = true ∧ ((∃ (x_1 : Nd), x.snd.snd.fst = x_1.kind ∧ x.snd.snd.snd.fst = x_1.text ∧ AV.sl true (0 : Nat) (1 : Nat) Int intA x.snd.snd.snd.snd.fst = AV.sl true (0 : Nat) (1 : Nat) Int intA x_1.kids ∧ x.snd.snd.snd.snd.snd = x_1.blank ∧ ∃ (zs : List Nd), AV.sl true (0 : Nat) (4 : Nat) Nd (ndA true) [x_1] = AV.sl true (0 : Nat) (4 : Nat) Nd (ndA true) zs ∧ leafy (ndA true) ∧ room (List.length x.snd.fst + List.length zs) (56 : Nat) ∧ true = true ∧ ∃ (i : Unit), True ∧ (AV.sl false (0 : Nat) (4 : Nat) Nd (ndA false) x.fst = AV.sl false (0 : Nat) (4 : Nat) Nd (ndA false) x.fst ∧ AV.sl true (0 : Nat) (4 : Nat) Nd (ndA true) (x.snd.fst ++ zs) = AV.sl true (0 : Nat) (4 : Nat) Nd (ndA true) (x.snd.fst ++ [{ kind := x.snd.snd.fst, text := x.snd.snd.snd.fst, kids := x.snd.snd.snd.snd.fst, blank := x.snd.snd.snd.snd.snd }]) ∧ True) ∧ True) ∧ (∃ (x_1 : Nd), x.snd.snd.fst = x_1.kind ∧ x.snd.snd.snd.fst = x_1.text ∧ AV.sl true (0 : Nat) (1 : Nat) Int intA x.snd.snd.snd.snd.fst = AV.sl true (0 : Nat) (1 : Nat) Int intA x_1.kids ∧ x.snd.snd.snd.snd.snd = x_1.blank ∧ ∃ (zs : List Nd), AV.sl true (0 : Nat) (4 : Nat) Nd (ndA true) [x_1] = AV.sl true (0 : Nat) (4 : Nat) Nd (ndA true) zs ∧ leafy (ndA true) ∧ room (List.length x.snd.fst + List.length zs) (56 : Nat) ∧ true = true ∧ ∃ (i : Unit), True ∧ (AV.sl false (0 : Nat) (4 : Nat) Nd (ndA false) x.fst = AV.sl false (0 : Nat) (4 : Nat) Nd (ndA false) x.fst ∧ AV.sl true (0 : Nat) (4 : Nat) Nd (ndA true) (x.snd.fst ++ zs) = AV.sl true (0 : Nat) (4 : Nat) Nd (ndA true) (x.snd.fst ++ [{ kind := x.snd.snd.fst, text := x.snd.snd.snd.fst, kids := x.snd.snd.snd.snd.fst, blank := x.snd.snd.snd.snd.snd }]) ∧ True) ∧ True) ∧ ∃ (x_1 : Nd), x.snd.snd.fst = x_1.kind ∧ x.snd.snd.snd.fst = x_1.text ∧ AV.sl true (0 : Nat) (1 : Nat) Int intA x.snd.snd.snd.snd.fst = AV.sl true (0 : Nat) (1 : Nat) Int intA x_1.kids ∧ x.snd.snd.snd.snd.snd = x_1.blank ∧ ∃ (zs : List Nd), AV.sl true (0 : Nat) (4 : Nat) Nd (ndA true) [x_1] = AV.sl true (0 : Nat) (4 : Nat) Nd (ndA true) zs ∧ leafy (ndA true) ∧ room (List.length x.snd.fst + List.length zs) (56 : Nat) ∧ true = true ∧ ∃ (i : Unit), True ∧ (AV.sl false (0 : Nat) (4 : Nat) Nd (ndA false) x.fst = AV.sl false (0 : Nat) (4 : Nat) Nd (ndA false) x.fst ∧ AV.sl true (0 : Nat) (4 : Nat) Nd (ndA true) (x.snd.fst ++ zs) = AV.sl true (0 : Nat) (4 : Nat) Nd (ndA true) (x.snd.fst ++ [{ kind := x.snd.snd.fst, text := x.snd.snd.snd.fst, kids := x.snd.snd.snd.snd.fst, blank := x.snd.snd.snd.snd.snd }]) ∧ True) ∧ True) ∧ ∀ (i : Unit), True → inR IntKind.i64 ((↑(List.length (x.snd.fst ++ [{ kind := x.snd.snd.fst, text := x.snd.snd.snd.fst, kids := x.snd.snd.snd.snd.fst, blank := x.snd.snd.snd.snd.snd }])) : Int) - (1 : Int)) ∧ ∃ (y : Unit), True ∧ (↑(List.length (x.snd.fst ++ [{ kind := x.snd.snd.fst, text := x.snd.snd.snd.fst, kids := x.snd.snd.snd.snd.fst, blank := x.snd.snd.snd.snd.snd }])) : Int) - (1 : Int) = (↑(List.length x.snd.fst) : Int) ∧ AV.sl false (0 : Nat) (4 : Nat) Nd (ndA false) x.fst = AV.sl false (0 : Nat) (4 : Nat) Nd (ndA false) x.fst ∧ AV.sl true (0 : Nat) (4 : Nat) Nd (ndA true) (x.snd.fst ++ [{ kind := x.snd.snd.fst, text := x.snd.snd.snd.fst, kids := x.snd.snd.snd.snd.fst, blank := x.snd.snd.snd.snd.snd }]) = AV.sl true (0 : Nat) (4 : Nat) Nd (ndA true) (x.snd.fst ++ [{ kind := x.snd.snd.fst, text := x.snd.snd.snd.fst, kids := x.snd.snd.snd.snd.fst, blank := x.snd.snd.snd.snd.snd }]) ∧ True) := by kernel_rfl
theorem mAddO_ok  : Contract G Tryz.prog 115 s_mAddO :=
  vcFun_ok (Γ := Γof []) (E := Eof [(24, ⟨Nd,ndA true⟩)]) (ov := false) (L := fun x => Lof ([(100001,{ ι := Unit, inv := fun _ => True, regs := fun _ => [(0, .box 0 [nds x.1, onds (x.2.1 ++ [⟨x.2.2.1, x.2.2.2.1, x.2.2.2.2.1, x.2.2.2.2.2⟩]), clO])], als := [], meas := fun _ => 0 })])) Tryz.func115 rfl (by decide) (Γof_ok (l := []) trivial) fun (x : List Nd × List Nd × Int × List UInt8 × List Int × Bool) (hx : x.2.1.length ≤ 2 ^ 21) => (mAddO_vc  x).mpr (by
  have hx : x.2.1.length ≤ 2 ^ 21 := hx
  (repeat' first | with_reducible rfl | exact True.intro | refine inR_i64 ?_ ?_ | with_reducible refine And.intro ?_ ?_ | with_reducible refine bcase_dec (fun _ => ?_) (fun _ => ?_) | with_reducible refine bcase_bne (fun _ => ?_) (fun _ => ?_) | with_reducible refine bcase_beq (fun _ => ?_) (fun _ => ?_) | with_reducible refine bcase_not (fun _ => ?_) (fun _ => ?_) | refine bcase_intro (fun _ => ?_) (fun _ => ?_) | refine sl_eq ?_ | refine ex_flip () ?_ ?_ | (apply ex_flip6 <;> try dsimp only) | (apply ex_flip5 <;> try dsimp only) | (apply ex_flip4 <;> try dsimp only) | (apply ex_flip3 <;> try dsimp only) | (apply ex_flip2 <;> try dsimp only) | apply ex_flip | (refine Prod.forall.2 ?_; intro _; try dsimp only) | (intro _; try dsimp only))
  all_goals first
    | rfl
    | ((try simp only [i64max, room, List.length_append, List.length_cons, List.length_nil]); omega)
    | skip)

def putI (n : Nat) (x : List Nd × Int × List Nd) : Prop := putP (fun _ => rId) n x
def s_mO (n : Nat) : Sig := { X := List Nd × Int × List Nd, args := fun x => [.box 0 [nds x.1, onds x.2.2, clO], .int .i64 x.2.1], pre := fun x => putI n x, Y := Unit, post := fun x y => True, res := fun x y => .int .i64 ((putN x.1 rId n x.2.1 x.2.2).length - 1), outs := fun x y => [.box 0 [nds x.1, onds (putN x.1 rId n x.2.1 x.2.2), clO], .top], keep := true }
section
variable {ns : List Nd} {n : Nat} {k : Int} {out0 : List Nd} {i c : Int} {out : List Nd} {ks : List Int} {z : Nd}
theorem pkI_next (hz : ns[k.toNat]? = some z) (hx : putI (n + 1) (ns, k, out0)) (h : pk ns rId n k out0 i out ks) (hc : z.kids[i.toNat]? = some c) :
    pk ns rId n k out0 (i + 1) (putN ns rId n c out) (ks ++ [((putN ns rId n c out).length : Int) - 1]) := by
  rw [← ndAt_of hz] at hc
  exact pk_next rId_ok h hx.2.1 (by simpa using hx.2.2.1) hc
theorem pkI_pre (hz : ns[k.toNat]? = some z) (hx : putI (n + 1) (ns, k, out0)) (h : pk ns rId n k out0 i out ks) (hc : z.kids[i.toNat]? = some c) : putI n (ns, c, out) := by
  rw [← ndAt_of hz] at hc
  obtain ⟨h1, h2, h3, h4⟩ := hx
  obtain ⟨g1, g2, g3⟩ := pk_pre rId_ok h h2 (by simpa using h3) hc h4
  exact ⟨h1, g1, g2, g3⟩
theorem pkI_bd (hz : ns[k.toNat]? = some z) (hx : putI (n + 1) (ns, k, out0)) (h : pk ns rId n k out0 i out ks) (hc : z.kids[i.toNat]? = some c) :
    (putN ns rId n c out).length ≤ 1048576 ∧ 1 ≤ (putN ns rId n c out).length := by
  obtain ⟨h1, h2, h3, h4⟩ := pkI_pre hz hx h hc
  have := putN_bd (@rId_ok ns) (n := n) (k := c) (out := out) h2 h3
  simp only at h4
  omega
theorem pkI_len (hz : ns[k.toNat]? = some z) (hx : putI (n + 1) (ns, k, out0)) (h : pk ns rId n k out0 i out ks) :
    (0 ≤ i ∧ i ≤ z.kids.length) ∧ z.kids.length ≤ 12 ∧ ks.length = i ∧ out.length ≤ 1048576 := pkZ_len (R := fun _ => rId) hz hx h
theorem pkI_done (hz : ns[k.toNat]? = some z) (h : pk ns rId n k out0 i out ks) (hl : ¬ i < z.kids.length) : out ++ [⟨z.kind, z.text, ks, z.blank⟩] = putN ns rId (n + 1) k out0 := pkZ_done (R := fun _ => rId) hz h hl rfl
theorem pkI_fin (hz : ns[k.toNat]? = some z) (h : pk ns rId n k out0 i out ks) (hl : ¬ i < z.kids.length) : (out.length : Int) = (putN ns rId (n + 1) k out0).length - 1 := pkZ_fin (R := fun _ => rId) hz h hl rfl
end
def s_mOZ  : Sig := { X := List Nd × Int × List Nd, args := fun x => [.box 0 [nds x.1, onds x.2.2, clO], .int .i64 x.2.1], pre := fun x => putI 0 x, Y := Unit, post := fun x y => True, res := fun x y => .int .i64 ((putN x.1 rId 0 x.2.1 x.2.2).length - 1), outs := fun x y => [.box 0 [nds x.1, onds (putN x.1 rId 0 x.2.1 x.2.2), clO], .top], keep := true }
theorem mOZ_vc (x : List Nd × Int × List Nd) : vcFun Go.Proofs.Tryz.prog (Γof []) (Eof []) false (Lof ([])) Go.Proofs.Tryz.f57.ntmps Go.Proofs.Tryz.f57.results.toList (Go.Proofs.Tryz.f57.body.getD .skip) s_mOZ x = (True ∧ ((0 : Int) ≤ x.snd.fst ∧ x.snd.fst < (↑(List.length x.fst) : Int)) ∧ ∀ (e : Nd), x.fst[Int.toNat x.snd.fst]? = some e → False) := by kernel_rfl
theorem mOZ_ok  : Contract G Tryz.prog 57 s_mOZ :=
  vcFun_ok (Γ := Γof []) (E := Eof []) (ov := false) (L := fun x => Lof ([])) Tryz.func57 rfl (by decide) (Γof_ok (l := []) trivial) fun (x : List Nd × Int × List Nd) (hx : putI 0 x) => (mOZ_vc  x).mpr (by
  have h1 := hx.2.2.1; have h2 := isNd_iff.1 hx.2.1.1
  omega)

def lMO (n : Nat) (x : List Nd × Int × List Nd) : LS := {
  ι := Int × List Nd × List Int, inv := fun i => pk x.1 rId n x.2.1 x.2.2 i.1 i.2.1 i.2.2,
  regs := fun i => [(0, .box 0 [nds x.1, onds i.2.1, clO]), (5, .box 0 (ndA false (ndAt x.1 x.2.1))), (6, oints i.2.2), (20, ints (ndAt x.1 x.2.1).kids), (21, .int .i64 (ndAt x.1 x.2.1).kids.length), (22, .int .i64 i.1)], als := [], meas := fun i => (ndAt x.1 x.2.1).kids.length - i.1.toNat }
def s_mOS (n : Nat) : Sig := { X := List Nd × Int × List Nd, args := fun x => [.box 0 [nds x.1, onds x.2.2, clO], .int .i64 x.2.1], pre := fun x => putI (n + 1) x, Y := Unit, post := fun x y => True, res := fun x y => .int .i64 ((putN x.1 rId (n + 1) x.2.1 x.2.2).length - 1), outs := fun x y => [.box 0 [nds x.1, onds (putN x.1 rId (n + 1) x.2.1 x.2.2), clO], .top], keep := true }
theorem mOS_vc (n : Nat) (x : List Nd × Int × List Nd) : vcFun Go.Proofs.Tryz.prog (Γof [(57, 0, (s_mO n)), (115, 0, s_mAddO), (75, 0, s_ord1)]) (Eof [(39, ⟨Int,intA⟩)]) false (Lof ([(4,lMO n x)])) Go.Proofs.Tryz.f57.ntmps Go.Proofs.Tryz.f57.results.toList (Go.Proofs.Tryz.f57.body.getD .skip) (s_mOS n) x = (True ∧ ((0 : Int) ≤ x.snd.fst ∧ x.snd.fst < (↑(List.length x.fst) : Int)) ∧ ∀ (e : Nd), x.fst[Int.toNat x.snd.fst]? = some e → (∃ (i : Int × List Nd × List Int), pk x.fst rId n x.snd.fst x.snd.snd i.fst i.snd.fst i.snd.snd ∧ (AV.sl false (0 : Nat) (4 : Nat) Nd (ndA false) x.fst = AV.sl false (0 : Nat) (4 : Nat) Nd (ndA false) x.fst ∧ AV.sl true (0 : Nat) (4 : Nat) Nd (ndA true) x.snd.snd = AV.sl true (0 : Nat) (4 : Nat) Nd (ndA true) i.snd.fst ∧ e.kind = (ndAt x.fst x.snd.fst).kind ∧ e.text = (ndAt x.fst x.snd.fst).text ∧ AV.sl false (0 : Nat) (1 : Nat) Int intA e.kids = AV.sl false (0 : Nat) (1 : Nat) Int intA (ndAt x.fst x.snd.fst).kids ∧ e.blank = (ndAt x.fst x.snd.fst).blank ∧ i.snd.snd = [] ∧ AV.sl false (0 : Nat) (1 : Nat) Int intA e.kids = AV.sl false (0 : Nat) (1 : Nat) Int intA (ndAt x.fst x.snd.fst).kids ∧ (↑(List.length e.kids) : Int) = (↑(List.length (ndAt x.fst x.snd.fst).kids) : Int) ∧ (0 : Int) = i.fst ∧ True) ∧ True) ∧ ∀ (i : Int × List Nd × List Int), pk x.fst rId n x.snd.fst x.snd.snd i.fst i.snd.fst i.snd.snd → bcase (decide (i.fst < (↑(List.length (ndAt x.fst x.snd.fst).kids) : Int))) (((0 : Int) ≤ i.fst ∧ i.fst < (↑(List.length (ndAt x.fst x.snd.fst).kids) : Int)) ∧ ∀ (e : Int), (ndAt x.fst x.snd.fst).kids[Int.toNat i.fst]? = some e → true = true ∧ true = true ∧ ∃ (x_1 : Nd × Int × Int), True ∧ (ndAt x.fst x.snd.fst).kind = x_1.fst.kind ∧ (ndAt x.fst x.snd.fst).text = x_1.fst.text ∧ AV.sl false (0 : Nat) (1 : Nat) Int intA (ndAt x.fst x.snd.fst).kids = AV.sl false (0 : Nat) (1 : Nat) Int intA x_1.fst.kids ∧ (ndAt x.fst x.snd.fst).blank = x_1.fst.blank ∧ i.fst = x_1.snd.fst ∧ e = x_1.snd.snd ∧ ∃ (y0 : Unit), (∀ (y : Unit), True → AV.tup [AV.int IntKind.i64 x_1.snd.snd, AV.bool false] = AV.tup [AV.int IntKind.i64 x_1.snd.snd, AV.bool false]) ∧ true = true ∧ ∃ (x_2 : List Nd × Int × List Nd), putI n x_2 ∧ AV.sl false (0 : Nat) (4 : Nat) Nd (ndA false) x.fst = AV.sl false (0 : Nat) (4 : Nat) Nd (ndA false) x_2.fst ∧ AV.sl true (0 : Nat) (4 : Nat) Nd (ndA true) i.snd.fst = AV.sl true (0 : Nat) (4 : Nat) Nd (ndA true) x_2.snd.snd ∧ x_1.snd.snd = x_2.snd.fst ∧ ∀ (y : Unit), True → ∃ (x_3 : Int), (↑(List.length (putN x_2.fst rId n x_2.snd.fst x_2.snd.snd)) : Int) - (1 : Int) = x_3 ∧ ∃ (zs : List Int), AV.sl true (0 : Nat) (1 : Nat) Int intA [x_3] = AV.sl true (0 : Nat) (1 : Nat) Int intA zs ∧ leafy intA ∧ room (List.length i.snd.snd + List.length zs) (8 : Nat) ∧ inR IntKind.i64 (i.fst + (1 : Int)) ∧ ∃ (i' : Int × List Nd × List Int), pk x.fst rId n x.snd.fst x.snd.snd i'.fst i'.snd.fst i'.snd.snd ∧ List.length (ndAt x.fst x.snd.fst).kids - Int.toNat i'.fst < List.length (ndAt x.fst x.snd.fst).kids - Int.toNat i.fst ∧ (AV.sl false (0 : Nat) (4 : Nat) Nd (ndA false) x_2.fst = AV.sl false (0 : Nat) (4 : Nat) Nd (ndA false) x.fst ∧ AV.sl true (0 : Nat) (4 : Nat) Nd (ndA true) (putN x_2.fst rId n x_2.snd.fst x_2.snd.snd) = AV.sl true (0 : Nat) (4 : Nat) Nd (ndA true) i'.snd.fst ∧ (ndAt x.fst x.snd.fst).kind = (ndAt x.fst x.snd.fst).kind ∧ (ndAt x.fst x.snd.fst).text = (ndAt x.fst x.snd.fst).text ∧ AV.sl false (0 : Nat) (1 : Nat) Int intA (ndAt x.fst x.snd.fst).kids = AV.sl false (0 : Nat) (1 : Nat) Int intA (ndAt x.fst x.snd.fst).kids ∧ (ndAt x.fst x.snd.fst).blank = (ndAt x.fst x.snd.fst).blank ∧ AV.sl true (0 : Nat) (1 : Nat) Int intA (i.snd.snd ++ zs) = AV.sl true (0 : Nat) (1 : Nat) Int intA i'.snd.snd ∧ AV.sl false (0 : Nat) (1 : Nat) Int intA (ndAt x.fst x.snd.fst).kids = AV.sl false (0 : Nat) (1 : Nat) Int intA (ndAt x.fst x.snd.fst).kids ∧ (↑(List.length (ndAt x.fst x.snd.fst).kids) : Int) = (↑(List.length (ndAt x.fst x.snd.fst).kids) : Int) ∧ i.fst + (1 : Int) = i'.fst ∧ True) ∧ True) (∃ (x_1 : List Nd × List Nd × Int × List UInt8 × List Int × Bool), List.length x_1.snd.fst ≤ (2097152 : Nat) ∧ AV.sl false (0 : Nat) (4 : Nat) Nd (ndA false) x.fst = AV.sl false (0 : Nat) (4 : Nat) Nd (ndA false) x_1.fst ∧ AV.sl true (0 : Nat) (4 : Nat) Nd (ndA true) i.snd.fst = AV.sl true (0 : Nat) (4 : Nat) Nd (ndA true) x_1.snd.fst ∧ (ndAt x.fst x.snd.fst).kind = x_1.snd.snd.fst ∧ (ndAt x.fst x.snd.fst).text = x_1.snd.snd.snd.fst ∧ AV.sl true (0 : Nat) (1 : Nat) Int intA i.snd.snd = AV.sl true (0 : Nat) (1 : Nat) Int intA x_1.snd.snd.snd.snd.fst ∧ (ndAt x.fst x.snd.fst).blank = x_1.snd.snd.snd.snd.snd ∧ ∀ (y : Unit), True → ∃ (y : Unit), True ∧ (↑(List.length x_1.snd.fst) : Int) = (↑(List.length (putN x.fst rId (n + (1 : Nat)) x.snd.fst x.snd.snd)) : Int) - (1 : Int) ∧ AV.sl false (0 : Nat) (4 : Nat) Nd (ndA false) x_1.fst = AV.sl false (0 : Nat) (4 : Nat) Nd (ndA false) x.fst ∧ AV.sl true (0 : Nat) (4 : Nat) Nd (ndA true) (x_1.snd.fst ++ [{ kind := x_1.snd.snd.fst, text := x_1.snd.snd.snd.fst, kids := x_1.snd.snd.snd.snd.fst, blank := x_1.snd.snd.snd.snd.snd }]) = AV.sl true (0 : Nat) (4 : Nat) Nd (ndA true) (putN x.fst rId (n + (1 : Nat)) x.snd.fst x.snd.snd) ∧ True)) := by kernel_rfl
theorem mOS_ok (n : Nat) (hc : Contract G Go.Proofs.Tryz.prog 57 (s_mO n)) : Contract G Tryz.prog 57 (s_mOS n) :=
  vcFun_ok (Γ := Γof [(57, 0, (s_mO n)), (115, 0, s_mAddO), (75, 0, s_ord1)]) (E := Eof [(39, ⟨Int,intA⟩)]) (ov := false) (L := fun x => Lof ([(4,lMO n x)])) Tryz.func57 rfl (by decide) (Γof_ok (l := [(57, 0, (s_mO n)), (115, 0, s_mAddO), (75, 0, s_ord1)]) ⟨hc, mAddO_ok, ord1_ok, trivial⟩) fun (x : List Nd × Int × List Nd) (hx : putI (n + 1) x) => (mOS_vc n x).mpr (by
  have h1 := hx.1; have hl := h1.1; have hu := hx.2.1; have hn := isNd_iff.1 hu.1
  obtain ⟨z, hz⟩ : ∃ z, x.1[x.2.1.toNat]? = some z := ⟨x.1[x.2.1.toNat], by simp⟩
  simp only [hz, Option.some.injEq, forall_eq', ndAt_of hz]
  (repeat' first | with_reducible rfl | exact True.intro | refine inR_i64 ?_ ?_ | with_reducible refine And.intro ?_ ?_ | with_reducible refine bcase_dec (fun _ => ?_) (fun _ => ?_) | with_reducible refine bcase_bne (fun _ => ?_) (fun _ => ?_) | with_reducible refine bcase_beq (fun _ => ?_) (fun _ => ?_) | with_reducible refine bcase_not (fun _ => ?_) (fun _ => ?_) | refine bcase_intro (fun _ => ?_) (fun _ => ?_) | refine sl_eq ?_ | refine ex_flip () ?_ ?_ | (apply ex_flip6 <;> try dsimp only) | (apply ex_flip5 <;> try dsimp only) | (apply ex_flip4 <;> try dsimp only) | (apply ex_flip3 <;> try dsimp only) | (apply ex_flip2 <;> try dsimp only) | apply ex_flip | (refine Prod.forall.2 ?_; intro _; try dsimp only) | (intro _; try dsimp only))
  all_goals first
    | rfl
    | omega
    | exact pk_init
    | exact hl
    | contradiction
    | exact pkI_next hz hx (by assumption) (by assumption)
    | exact pkI_pre hz hx (by assumption) (by assumption)
    | exact pkI_done hz (by assumption) (by assumption)
    | exact pkI_fin hz (by assumption) (by assumption)
    | (have hq := pkI_len hz hx (by assumption); (try simp only [i64max, room, List.length_append, List.length_cons, List.length_nil]); omega)
    | (have hq := pkI_len hz hx (by assumption); have hq2 := pkI_bd hz hx (by assumption) (by assumption); (try simp only [i64max, room, List.length_append, List.length_cons, List.length_nil]); omega)
    | skip)

theorem mO_all : ∀ n : Nat, Contract G Go.Proofs.Tryz.prog 57 (s_mO n)
  | 0 => mOZ_ok
  | n + 1 => mOS_ok n (mO_all n)
end Go.My
end
section
/- Members in order: the reference's writer, and both entries. -/
set_option linter.unusedVariables false
set_option linter.unusedSimpArgs false
set_option maxHeartbeats 8000000
namespace Go.My
open Go.Eng Go.Proofs
variable {G : GInv}

def s_oP (n : Nat) : Sig := { X := List Nd × Int × List Nd, args := fun x => [nds x.1, .int .i64 x.2.1, onds x.2.2], pre := fun x => putI n x, Y := Unit, post := fun x y => True, res := fun x y => .tup [onds (putN x.1 rId n x.2.1 x.2.2), .int .i64 ((putN x.1 rId n x.2.1 x.2.2).length - 1)], outs := fun x y => [.top, .top, .top], keep := false }
def s_oPZ  : Sig := { X := List Nd × Int × List Nd, args := fun x => [nds x.1, .int .i64 x.2.1, onds x.2.2], pre := fun x => putI 0 x, Y := Unit, post := fun x y => True, res := fun x y => .tup [onds (putN x.1 rId 0 x.2.1 x.2.2), .int .i64 ((putN x.1 rId 0 x.2.1 x.2.2).length - 1)], outs := fun x y => [.top, .top, .top], keep := false }
theorem oPZ_vc (x : List Nd × Int × List Nd) : vcFun Go.Proofs.Tryz.prog (Γof []) (Eof []) false (Lof ([])) Go.Proofs.Tryz.f74.ntmps Go.Proofs.Tryz.f74.results.toList (Go.Proofs.Tryz.f74.body.getD .skip) s_oPZ x = ((∀ (y : Unit), True → ((∀ (x : Nd), True ∧ True ∧ (∀ (x : Int), True ∧ True) ∧ True ∧ True) ∧ True ∧ True) ∧ True ∧ True ∧ True ∧ True) ∧ true = true ∧ true = true ∧ ((0 : Int) ≤ x.snd.fst ∧ x.snd.fst < (↑(List.length x.fst) : Int)) ∧ ∀ (e : Nd), x.fst[Int.toNat x.snd.fst]? = some e → ((0 : Int) ≤ x.snd.fst ∧ x.snd.fst < (↑(List.length x.fst) : Int)) ∧ ∀ (e : Nd), x.fst[Int.toNat x.snd.fst]? = some e → ((0 : Int) ≤ x.snd.fst ∧ x.snd.fst < (↑(List.length x.fst) : Int)) ∧ ∀ (e : Nd), x.fst[Int.toNat x.snd.fst]? = some e → False) := by kernel_rfl
theorem oPZ_ok  : Contract G Tryz.prog 74 s_oPZ :=
  vcFun_ok (Γ := Γof []) (E := Eof []) (ov := false) (L := fun x => Lof ([])) Tryz.func74 rfl (by decide) (Γof_ok (l := []) trivial) fun (x : List Nd × Int × List Nd) (hx : putI 0 x) => (oPZ_vc  x).mpr (by
  have h1 := hx.2.2.1; have h2 := isNd_iff.1 hx.2.1.1
  omega)

def lOP (n : Nat) (x : List Nd × Int × List Nd) : LS := {
  ι := Int × List Nd × List Int, inv := fun i => pk x.1 rId n x.2.1 x.2.2 i.1 i.2.1 i.2.2,
  regs := fun i => [(0, nds x.1), (1, .int .i64 x.2.1), (2, onds i.2.1), (8, .box 0 [.int .i64 (ndAt x.1 x.2.1).kind, .str (ndAt x.1 x.2.1).text, oints i.2.2, .bool (ndAt x.1 x.2.1).blank]), (9, .int .i64 i.1)], als := [], meas := fun i => (ndAt x.1 x.2.1).kids.length - i.1.toNat }
def s_oPS (n : Nat) : Sig := { X := List Nd × Int × List Nd, args := fun x => [nds x.1, .int .i64 x.2.1, onds x.2.2], pre := fun x => putI (n + 1) x, Y := Unit, post := fun x y => True, res := fun x y => .tup [onds (putN x.1 rId (n + 1) x.2.1 x.2.2), .int .i64 ((putN x.1 rId (n + 1) x.2.1 x.2.2).length - 1)], outs := fun x y => [.top, .top, .top], keep := false }
theorem oPS_vc (n : Nat) (x : List Nd × Int × List Nd) : vcFun Go.Proofs.Tryz.prog (Γof [(74, 0, (s_oP n))]) (Eof [(39, ⟨Int,intA⟩), (24, ⟨Nd,ndA true⟩)]) false (Lof ([(3,lOP n x), (100001,lLPC x), (300008,lLPC x)])) Go.Proofs.Tryz.f74.ntmps Go.Proofs.Tryz.f74.results.toList (Go.Proofs.Tryz.f74.body.getD .skip) (s_oPS n) x = ((∀ (y : Unit), True → ((∀ (x : Nd), True ∧ True ∧ (∀ (x : Int), True ∧ True) ∧ True ∧ True) ∧ True ∧ True) ∧ True ∧ True ∧ True ∧ True) ∧ true = true ∧ (((0 : Int) ≤ x.snd.fst ∧ x.snd.fst < (↑(List.length x.fst) : Int)) ∧ ∀ (e : Nd), x.fst[Int.toNat x.snd.fst]? = some e → ((0 : Int) ≤ x.snd.fst ∧ x.snd.fst < (↑(List.length x.fst) : Int)) ∧ ∀ (e_1 : Nd), x.fst[Int.toNat x.snd.fst]? = some e_1 → ((0 : Int) ≤ x.snd.fst ∧ x.snd.fst < (↑(List.length x.fst) : Int)) ∧ ∀ (e_2 : Nd), x.fst[Int.toNat x.snd.fst]? = some e_2 → ((true = true ∧ ∃ (i : Unit), True ∧ (AV.sl false (0 : Nat) (4 : Nat) Nd (ndA false) x.fst = AV.sl false (0 : Nat) (4 : Nat) Nd (ndA false) x.fst ∧ x.snd.fst = x.snd.fst ∧ AV.sl true (0 : Nat) (4 : Nat) Nd (ndA true) x.snd.snd = AV.sl true (0 : Nat) (4 : Nat) Nd (ndA true) x.snd.snd ∧ e.kind = (ndAt x.fst x.snd.fst).kind ∧ e_1.text = (ndAt x.fst x.snd.fst).text ∧ AV.sl true (0 : Nat) (1 : Nat) Int intA [] = AV.sl true (0 : Nat) (1 : Nat) Int intA [] ∧ e_2.blank = (ndAt x.fst x.snd.fst).blank ∧ True) ∧ True) ∧ true = true ∧ ∃ (i : Unit), True ∧ (AV.sl false (0 : Nat) (4 : Nat) Nd (ndA false) x.fst = AV.sl false (0 : Nat) (4 : Nat) Nd (ndA false) x.fst ∧ x.snd.fst = x.snd.fst ∧ AV.sl true (0 : Nat) (4 : Nat) Nd (ndA true) x.snd.snd = AV.sl true (0 : Nat) (4 : Nat) Nd (ndA true) x.snd.snd ∧ e.kind = (ndAt x.fst x.snd.fst).kind ∧ e_1.text = (ndAt x.fst x.snd.fst).text ∧ AV.sl true (0 : Nat) (1 : Nat) Int intA [] = AV.sl true (0 : Nat) (1 : Nat) Int intA [] ∧ e_2.blank = (ndAt x.fst x.snd.fst).blank ∧ True) ∧ True) ∧ true = true ∧ ∃ (i : Unit), True ∧ (AV.sl false (0 : Nat) (4 : Nat) Nd (ndA false) x.fst = AV.sl false (0 : Nat) (4 : Nat) Nd (ndA false) x.fst ∧ x.snd.fst = x.snd.fst ∧ AV.sl true (0 : Nat) (4 : Nat) Nd (ndA true) x.snd.snd = AV.sl true (0 : Nat) (4 : Nat) Nd (ndA true) x.snd.snd ∧ e.kind = (ndAt x.fst x.snd.fst).kind ∧ e_1.text = (ndAt x.fst x.snd.fst).text ∧ AV.sl true (0 : Nat) (1 : Nat) Int intA [] = AV.sl true (0 : Nat) (1 : Nat) Int intA [] ∧ e_2.blank = (ndAt x.fst x.snd.fst).blank ∧ True) ∧ True) ∧ ∀ (i : Unit), True → (∃ (i : Int × List Nd × List Int), pk x.fst rId n x.snd.fst x.snd.snd i.fst i.snd.fst i.snd.snd ∧ (AV.sl false (0 : Nat) (4 : Nat) Nd (ndA false) x.fst = AV.sl false (0 : Nat) (4 : Nat) Nd (ndA false) x.fst ∧ x.snd.fst = x.snd.fst ∧ AV.sl true (0 : Nat) (4 : Nat) Nd (ndA true) x.snd.snd = AV.sl true (0 : Nat) (4 : Nat) Nd (ndA true) i.snd.fst ∧ (ndAt x.fst x.snd.fst).kind = (ndAt x.fst x.snd.fst).kind ∧ (ndAt x.fst x.snd.fst).text = (ndAt x.fst x.snd.fst).text ∧ AV.sl true (0 : Nat) (1 : Nat) Int intA [] = AV.sl true (0 : Nat) (1 : Nat) Int intA i.snd.snd ∧ (ndAt x.fst x.snd.fst).blank = (ndAt x.fst x.snd.fst).blank ∧ (0 : Int) = i.fst ∧ True) ∧ True) ∧ ∀ (i : Int × List Nd × List Int), pk x.fst rId n x.snd.fst x.snd.snd i.fst i.snd.fst i.snd.snd → ((0 : Int) ≤ x.snd.fst ∧ x.snd.fst < (↑(List.length x.fst) : Int)) ∧ ∀ (e : Nd), x.fst[Int.toNat x.snd.fst]? = some e → bcase (decide (i.fst < (↑(List.length e.kids) : Int))) (((0 : Int) ≤ x.snd.fst ∧ x.snd.fst < (↑(List.length x.fst) : Int)) ∧ ∀ (e : Nd), x.fst[Int.toNat x.snd.fst]? = some e → ((0 : Int) ≤ i.fst ∧ i.fst < (↑(List.length e.kids) : Int)) ∧ ∀ (e_1 : Int), e.kids[Int.toNat i.fst]? = some e_1 → ∃ (x_1 : List Nd × Int × List Nd), putI n x_1 ∧ AV.sl true (0 : Nat) (4 : Nat) Nd (ndA true) i.snd.fst = AV.sl true (0 : Nat) (4 : Nat) Nd (ndA true) x_1.snd.snd ∧ AV.sl false (0 : Nat) (4 : Nat) Nd (ndA false) x.fst = AV.sl false (0 : Nat) (4 : Nat) Nd (ndA false) x_1.fst ∧ e_1 = x_1.snd.fst ∧ ∀ (y : Unit), True → ∃ (x_2 : Int), (↑(List.length (putN x_1.fst rId n x_1.snd.fst x_1.snd.snd)) : Int) - (1 : Int) = x_2 ∧ ∃ (zs : List Int), AV.sl true (0 : Nat) (1 : Nat) Int intA [x_2] = AV.sl true (0 : Nat) (1 : Nat) Int intA zs ∧ leafy intA ∧ room (List.length i.snd.snd + List.length zs) (8 : Nat) ∧ inR IntKind.i64 (i.fst + (1 : Int)) ∧ ∃ (i' : Int × List Nd × List Int), pk x.fst rId n x.snd.fst x.snd.snd i'.fst i'.snd.fst i'.snd.snd ∧ List.length (ndAt x.fst x.snd.fst).kids - Int.toNat i'.fst < List.length (ndAt x.fst x.snd.fst).kids - Int.toNat i.fst ∧ (AV.sl false (0 : Nat) (4 : Nat) Nd (ndA false) x.fst = AV.sl false (0 : Nat) (4 : Nat) Nd (ndA false) x.fst ∧ x.snd.fst = x.snd.fst ∧ AV.sl true (0 : Nat) (4 : Nat) Nd (ndA true) (putN x_1.fst rId n x_1.snd.fst x_1.snd.snd) = AV.sl true (0 : Nat) (4 : Nat) Nd (ndA true) i'.snd.fst ∧ (ndAt x.fst x.snd.fst).kind = (ndAt x.fst x.snd.fst).kind ∧ (ndAt x.fst x.snd.fst).text = (ndAt x.fst x.snd.fst).text ∧ AV.sl true (0 : Nat) (1 : Nat) Int intA (i.snd.snd ++ zs) = AV.sl true (0 : Nat) (1 : Nat) Int intA i'.snd.snd ∧ (ndAt x.fst x.snd.fst).blank = (ndAt x.fst x.snd.fst).blank ∧ i.fst + (1 : Int) = i'.fst ∧ True) ∧ True) (true = true ∧ ∃ (x_1 : Nd), (ndAt x.fst x.snd.fst).kind = x_1.kind ∧ (ndAt x.fst x.snd.fst).text = x_1.text ∧ AV.sl true (0 : Nat) (1 : Nat) Int intA i.snd.snd = AV.sl true (0 : Nat) (1 : Nat) Int intA x_1.kids ∧ (ndAt x.fst x.snd.fst).blank = x_1.blank ∧ ∃ (zs : List Nd), AV.sl true (0 : Nat) (4 : Nat) Nd (ndA true) [x_1] = AV.sl true (0 : Nat) (4 : Nat) Nd (ndA true) zs ∧ leafy (ndA true) ∧ room (List.length i.snd.fst + List.length zs) (56 : Nat) ∧ ∃ (y : Unit), True ∧ AV.sl true (0 : Nat) (4 : Nat) Nd (ndA true) (i.snd.fst ++ zs) = AV.sl true (0 : Nat) (4 : Nat) Nd (ndA true) (putN x.fst rId (n + (1 : Nat)) x.snd.fst x.snd.snd) ∧ (↑(List.length i.snd.fst) : Int) = (↑(List.length (putN x.fst rId (n + (1 : Nat)) x.snd.fst x.snd.snd)) : Int) - (1 : Int) ∧ True)) := by kernel_rfl
theorem oPS_ok (n : Nat) (hc : Contract G Go.Proofs.Tryz.prog 74 (s_oP n)) : Contract G Tryz.prog 74 (s_oPS n) :=
  vcFun_ok (Γ := Γof [(74, 0, (s_oP n))]) (E := Eof [(39, ⟨Int,intA⟩), (24, ⟨Nd,ndA true⟩)]) (ov := false) (L := fun x => Lof ([(3,lOP n x), (100001,lLPC x), (300008,lLPC x)])) Tryz.func74 rfl (by decide) (Γof_ok (l := [(74, 0, (s_oP n))]) ⟨hc, trivial⟩) fun (x : List Nd × Int × List Nd) (hx : putI (n + 1) x) => (oPS_vc n x).mpr (by
  have h1 := hx.1; have hl := h1.1; have hu := hx.2.1; have hn := isNd_iff.1 hu.1
  obtain ⟨z, hz⟩ : ∃ z, x.1[x.2.1.toNat]? = some z := ⟨x.1[x.2.1.toNat], by simp⟩
  simp only [hz, Option.some.injEq, forall_eq', ndAt_of hz]
  (repeat' first | refine ex_ndp ?_ | with_reducible rfl | exact True.intro | refine inR_i64 ?_ ?_ | with_reducible refine And.intro ?_ ?_ | with_reducible refine bcase_dec (fun _ => ?_) (fun _ => ?_) | with_reducible refine bcase_bne (fun _ => ?_) (fun _ => ?_) | with_reducible refine bcase_beq (fun _ => ?_) (fun _ => ?_) | with_reducible refine bcase_not (fun _ => ?_) (fun _ => ?_) | refine bcase_intro (fun _ => ?_) (fun _ => ?_) | refine sl_eq ?_ | refine ex_flip () ?_ ?_ | (apply ex_flip6 <;> try dsimp only) | (apply ex_flip5 <;> try dsimp only) | (apply ex_flip4 <;> try dsimp only) | (apply ex_flip3 <;> try dsimp only) | (apply ex_flip2 <;> try dsimp only) | apply ex_flip | (refine Prod.forall.2 ?_; intro _; try dsimp only) | (intro _; try dsimp only))
  all_goals first
    | rfl
    | exact pk_init
    | exact hl
    | exact pkI_next hz hx (by assumption) (by assumption)
    | exact pkI_pre hz hx (by assumption) (by assumption)
    | exact pkI_done hz (by assumption) (by assumption)
    | exact pkI_fin hz (by assumption) (by assumption)
    | omega
    | (have hq := pkI_len hz hx (by assumption); (try simp only [i64max, room, List.length_append, List.length_cons, List.length_nil]); omega)
    | (have hq := pkI_len hz hx (by assumption); have hq2 := pkI_bd hz hx (by assumption) (by assumption); (try simp only [i64max, room, List.length_append, List.length_cons, List.length_nil]); omega)
    | skip
  all_goals try rfl)

--proofs
theorem oP_all : ∀ n : Nat, Contract G Go.Proofs.Tryz.prog 74 (s_oP n)
  | 0 => oPZ_ok
  | n + 1 => oPS_ok n (oP_all n)
--end
/- the program's kids -/
def opre (x : List Nd) (i : Int) : List Int := ((orderedG x).take i.toNat).flatMap gk
theorem opre_next1 {x : List Nd} {i : Int} {g : Gr} (h0 : 0 ≤ i) (hg : (orderedG x)[i.toNat]? = some g) (hm : g.member ≥ 0) : opre x i ++ g.notes ++ [g.member] = opre x (i + 1) := by
  rw [opre, opre, toNat1 h0, takeE hg]; simp [gk, hm]
theorem opre_next2 {x : List Nd} {i : Int} {g : Gr} (h0 : 0 ≤ i) (hg : (orderedG x)[i.toNat]? = some g) (hm : ¬ g.member ≥ 0) : opre x i ++ g.notes = opre x (i + 1) := by
  rw [opre, opre, toNat1 h0, takeE hg]
  have : ¬ 0 ≤ g.member := by omega
  simp [gk, this]
theorem opre_end {x : List Nd} {i : Int} (h : ¬ i < ((orderedG x).length : Int)) : opre x i = ordK x := by
  rw [opre, List.take_of_length_le (by omega)]; rfl
theorem opre_0 {x : List Nd} : opre x 0 = [] := by simp [opre]
def fgrs (l : List Gr) : AV := .sl false 0 2 Gr (grA false) l
theorem opre_len {x : List Nd} {i : Int} (h : treeOk x = true) : (opre x i).length ≤ 12 := by
  have h1 := (ordK_perm h).length_eq
  have h2 := (fileKids_ok h).1
  have h3 : (opre x i).length ≤ (ordK x).length := by
    have e : ordK x = opre x i ++ ((orderedG x).drop i.toNat).flatMap gk := by
      rw [opre, ← List.flatMap_append, List.take_append_drop]; rfl
    rw [e, List.length_append]; omega
  omega
theorem opre_len2 {x : List Nd} {i : Int} {g : Gr} (h : treeOk x = true) (h0 : 0 ≤ i) (hg : (orderedG x)[i.toNat]? = some g) : (opre x i).length + g.notes.length ≤ 12 := by
  have h1 := @opre_len x (i + 1) h
  by_cases hm : g.member ≥ 0
  · rw [← opre_next1 h0 hg hm] at h1; simp at h1; omega
  · rw [← opre_next2 h0 hg hm] at h1; simp at h1; omega
def lIOr (x : List Nd) : LS := {
  ι := Int, inv := fun i => 0 ≤ i ∧ i ≤ (orderedG x).length,
  regs := fun i => [(3, .int .i64 (x.length - 1)), (4, hnds x), (5, oints (opre x i)), (20, fgrs (orderedG x)), (21, .int .i64 (orderedG x).length), (22, .int .i64 i)], als := [], meas := fun i => (orderedG x).length - i.toNat }
theorem bigN_eq : bigN = 1073741824 + 1 := by unfold bigN; omega
theorem ordT_vlen {x : List Nd} (h : treeOk x = true) (m : Nat) : (vis (ordT x) (m + 1) ((x.length : Int) - 1)).length ≤ 301 := by
  obtain ⟨h1, h2, h3, h4⟩ := tree1_of h
  have e := @ordT_root x h
  rw [vis_succ, visK, kidsOf, e]
  have h7 : (ordR x).kids.flatMap (vis (ordT x) m) = (ordK x).flatMap (vis x m) := by
    have : ∀ l : List Int, (∀ c ∈ l, c ∈ ordK x) → l.flatMap (vis (ordT x) m) = l.flatMap (vis x m) := by
      intro l
      induction l with
      | nil => intro _; rfl
      | cons c l ih =>
        intro hl
        have hc := (ordK_mem h).1 (hl c (by simp))
        have hm := okUp_kid h4 hc
        rw [List.flatMap_cons, List.flatMap_cons, ordT_vis h hm.1 hm.2.2, ih (fun d hd => hl d (by simp [hd]))]
    exact this _ fun c hc => hc
  rw [h7]
  have := (@ord_vis x h m).2
  omega
theorem putI_top {x : List Nd} (h : treeOk x = true) (ho : okNds x) : putI bigN (ordT x, (x.length : Int) - 1, []) := by
  obtain ⟨h1, h2, h3, h4⟩ := tree1_of h
  refine ⟨⟨by rw [ordT_len]; exact ho.1, ?_⟩, show okUp (ordT x) ((x.length : Int) - 1) from ordT_up h (by omega) (by omega), ?_, ?_⟩
  · intro e he
    obtain ⟨j, hj⟩ := List.mem_iff_getElem?.1 he
    have hlt := (getE hj).1
    rw [ordT_len] at hlt
    have hn := ndAt_of (c := (j : Int)) (by simpa using hj)
    rw [ordT_at h (by omega) (by omega)] at hn
    have hp := ordK_perm h
    have h5 := (fileKids_ok h).1
    have h6 := hp.length_eq
    split at hn
    · subst hn
      have := okNds_ndAt ho (k := (x.length : Int) - 1)
      exact ⟨this.1, show (ordK x).length < 2 ^ 62 by omega⟩
    · have := okNds_ndAt ho (k := (j : Int))
      split at hn
      · subst hn; exact this
      · subst hn; exact this
  · show (x.length : Int) - 1 < bigN
    unfold bigN; omega
  · have hv := ordT_vlen h 1073741824
    rw [← bigN_eq] at hv
    show 0 + 2 * _ ≤ 1048576
    simp only at hv ⊢
    omega
theorem ex_ndk {a : List AV} {b : List AV} {c : List Int} {e : Nd} {q : Nd → Prop} (h : q ⟨e.kind, e.text, c, e.blank⟩) :
    ∃ x' : Nd, ([AV.int IntKind.i64 x'.kind, AV.str x'.text] = [AV.int IntKind.i64 e.kind, AV.str e.text] ∧ [AV.bool x'.blank] = [AV.bool e.blank]) ∧ AV.sl false 0 1 Int (fun (x : Int) => fzL (intA x)) c = AV.sl false 0 1 Int intA x'.kids ∧ q x' :=
  ⟨⟨e.kind, e.text, c, e.blank⟩, ⟨rfl, rfl⟩, rfl, h⟩
theorem ex_ndb {e : Nd} {q : Nd → Prop} (h : q (blankOff e)) :
    ∃ x' : Nd, ([AV.int IntKind.i64 x'.kind, AV.str x'.text, AV.sl false 0 1 Int intA x'.kids] = [AV.int IntKind.i64 e.kind, AV.str e.text, AV.sl false 0 1 Int intA e.kids] ∧ (@List.nil AV) = []) ∧ false = x'.blank ∧ q x' :=
  ⟨blankOff e, ⟨rfl, rfl⟩, rfl, h⟩
theorem oset_eq {x : List Nd} {i : Int} {e : Nd} (h : treeOk x = true) (hi : ¬ i < ((orderedG x).length : Int)) (he : x[Int.toNat ((x.length : Int) - 1)]? = some e) :
    x.set (Int.toNat ((x.length : Int) - 1)) ⟨e.kind, e.text, opre x i, e.blank⟩ = ordN1 x := by
  have e1 : Int.toNat ((x.length : Int) - 1) = x.length - 1 := by omega
  have ht := (tree_len h).1
  have e2 : ndAt x ((x.length : Nat) - 1 : Int) = e := ndAt_of he
  rw [e1, opre_end hi, ordN1, ordR, e2]
theorem ofirst_r {x : List Nd} {i c : Int} (h : treeOk x = true) (hi : ¬ i < ((orderedG x).length : Int)) (hc : (opre x i)[0]? = some c) : 0 ≤ c ∧ c < (x.length : Int) - 1 := by
  rw [opre_end hi] at hc
  exact (fileKids_ok h).2 c ((ordK_mem h).1 (memE hc))
theorem oT_none {x : List Nd} {i : Int} (hi : ¬ i < ((orderedG x).length : Int)) (hl : ¬ ((opre x i).length : Int) > 0) : ordN1 x = ordT x := by
  rw [opre_end hi] at hl
  have : ordK x = [] := List.length_eq_zero_iff.1 (by omega)
  rw [ordT, this]
theorem oT_some {x : List Nd} {i c : Int} {e : Nd} (h : treeOk x = true) (hi : ¬ i < ((orderedG x).length : Int)) (hc : (opre x i)[0]? = some c) (he : (ordN1 x)[c.toNat]? = some e) : (ordN1 x).set c.toNat (blankOff e) = ordT x := by
  have hr := ofirst_r h hi hc
  rw [opre_end hi] at hc
  have e1 : ndAt (ordN1 x) c = e := ndAt_of he
  rw [ordN1, ndAt_set, if_neg (by omega)] at e1
  match hk : ordK x, hc with
  | d :: l, hc =>
    have hd : d = c := by simpa using hc
    subst hd
    rw [ordT, hk]
    simp only
    rw [e1]
def s_iOrdered  : Sig := { X := List Nd, args := fun x => [nds x], pre := fun x => (okNds x ∧ kidsB x) ∧ txtB x, Y := Unit, post := fun x y => True, res := fun x y => onds (orderedT x), outs := fun x y => [.top], keep := false }
theorem iOrdered_vc (x : List Nd) : vcFun Go.Proofs.Tryz.prog (Γof [(52, 0, s_iTreeOk), (53, 0, s_copyNodes), (53, 1000000 + 18, s_copyNodesH), (19, 0, s_iOrderedGroups), (57, 0, (s_mO bigN))]) (Eof [(24, ⟨Nd,ndA true⟩), (39, ⟨Int,intA⟩)]) false (Lof ([(7,lIOr x)])) Go.Proofs.Tryz.f31.ntmps Go.Proofs.Tryz.f31.results.toList (Go.Proofs.Tryz.f31.body.getD .skip) s_iOrdered x = ((∀ (y : Unit), True → (∀ (x : Nd), True ∧ True ∧ (∀ (x : Int), True ∧ True) ∧ True ∧ True) ∧ True ∧ True) ∧ ∃ (x_1 : List Nd), (okNds x_1 ∧ List.length x_1 ≤ (1073741824 : Nat)) ∧ AV.sl false (0 : Nat) (4 : Nat) Nd (ndA false) x = AV.sl false (0 : Nat) (4 : Nat) Nd (ndA false) x_1 ∧ ∀ (y : Unit), True → bcase (!treeOk x_1) (∃ (x_2 : List Nd), kidsB x_2 ∧ AV.sl false (0 : Nat) (4 : Nat) Nd (ndA false) x = AV.sl false (0 : Nat) (4 : Nat) Nd (ndA false) x_2 ∧ ∀ (y : Unit), True → ∃ (y : Unit), True ∧ AV.sl true (0 : Nat) (4 : Nat) Nd (ndA true) x_2 = AV.sl true (0 : Nat) (4 : Nat) Nd (ndA true) (orderedT x) ∧ True) (inR IntKind.i64 ((↑(List.length x) : Int) - (1 : Int)) ∧ ∃ (x_2 : List Nd), kidsB x_2 ∧ AV.sl false (0 : Nat) (4 : Nat) Nd (ndA false) x = AV.sl false (0 : Nat) (4 : Nat) Nd (ndA false) x_2 ∧ ∀ (y : Unit), True → ∃ (x_3 : List Nd), ((okNds x_3 ∧ List.length x_3 ≤ (1073741824 : Nat)) ∧ txtB x_3) ∧ AV.sl false (0 : Nat) (4 : Nat) Nd (ndA false) x = AV.sl false (0 : Nat) (4 : Nat) Nd (ndA false) x_3 ∧ ∀ (y : Unit), True → (∃ (i : Int), ((0 : Int) ≤ i ∧ i ≤ (↑(List.length (orderedG x)) : Int)) ∧ ((↑(List.length x) : Int) - (1 : Int) = (↑(List.length x) : Int) - (1 : Int) ∧ AV.sl true (0 : Nat) (4 : Nat) Nd (ndA false) x_2 = AV.sl true (0 : Nat) (4 : Nat) Nd (ndA false) x ∧ opre x i = [] ∧ AV.sl false (0 : Nat) (2 : Nat) Gr (fun (x : Gr) => fzL (grA true x)) (orderedG x_3) = AV.sl false (0 : Nat) (2 : Nat) Gr (grA false) (orderedG x) ∧ (↑(List.length (orderedG x_3)) : Int) = (↑(List.length (orderedG x)) : Int) ∧ (0 : Int) = i ∧ True) ∧ True) ∧ ∀ (i : Int), (0 : Int) ≤ i ∧ i ≤ (↑(List.length (orderedG x)) : Int) → bcase (decide (i < (↑(List.length (orderedG x)) : Int))) (((0 : Int) ≤ i ∧ i < (↑(List.length (orderedG x)) : Int)) ∧ ∀ (e : Gr), (orderedG x)[Int.toNat i]? = some e → ∃ (zs : List Int), AV.sl false (0 : Nat) (1 : Nat) Int intA e.notes = AV.sl false (0 : Nat) (1 : Nat) Int intA zs ∧ leafy intA ∧ room (List.length (opre x i) + List.length zs) (8 : Nat) ∧ bcase (decide (e.member ≥ (0 : Int))) (∃ (x_4 : Int), e.member = x_4 ∧ ∃ (zs_1 : List Int), AV.sl true (0 : Nat) (1 : Nat) Int intA [x_4] = AV.sl true (0 : Nat) (1 : Nat) Int intA zs_1 ∧ leafy intA ∧ room (List.length (opre x i ++ zs) + List.length zs_1) (8 : Nat) ∧ inR IntKind.i64 (i + (1 : Int)) ∧ ∃ (i' : Int), ((0 : Int) ≤ i' ∧ i' ≤ (↑(List.length (orderedG x)) : Int)) ∧ List.length (orderedG x) - Int.toNat i' < List.length (orderedG x) - Int.toNat i ∧ ((↑(List.length x) : Int) - (1 : Int) = (↑(List.length x) : Int) - (1 : Int) ∧ AV.sl true (0 : Nat) (4 : Nat) Nd (ndA false) x = AV.sl true (0 : Nat) (4 : Nat) Nd (ndA false) x ∧ AV.sl true (0 : Nat) (1 : Nat) Int intA (opre x i ++ zs ++ zs_1) = AV.sl true (0 : Nat) (1 : Nat) Int intA (opre x i') ∧ AV.sl false (0 : Nat) (2 : Nat) Gr (grA false) (orderedG x) = AV.sl false (0 : Nat) (2 : Nat) Gr (grA false) (orderedG x) ∧ (↑(List.length (orderedG x)) : Int) = (↑(List.length (orderedG x)) : Int) ∧ i + (1 : Int) = i' ∧ True) ∧ True) (inR IntKind.i64 (i + (1 : Int)) ∧ ∃ (i' : Int), ((0 : Int) ≤ i' ∧ i' ≤ (↑(List.length (orderedG x)) : Int)) ∧ List.length (orderedG x) - Int.toNat i' < List.length (orderedG x) - Int.toNat i ∧ ((↑(List.length x) : Int) - (1 : Int) = (↑(List.length x) : Int) - (1 : Int) ∧ AV.sl true (0 : Nat) (4 : Nat) Nd (ndA false) x = AV.sl true (0 : Nat) (4 : Nat) Nd (ndA false) x ∧ AV.sl true (0 : Nat) (1 : Nat) Int intA (opre x i ++ zs) = AV.sl true (0 : Nat) (1 : Nat) Int intA (opre x i') ∧ AV.sl false (0 : Nat) (2 : Nat) Gr (grA false) (orderedG x) = AV.sl false (0 : Nat) (2 : Nat) Gr (grA false) (orderedG x) ∧ (↑(List.length (orderedG x)) : Int) = (↑(List.length (orderedG x)) : Int) ∧ i + (1 : Int) = i' ∧ True) ∧ True)) (((0 : Int) ≤ (↑(List.length x) : Int) - (1 : Int) ∧ (↑(List.length x) : Int) - (1 : Int) < (↑(List.length x) : Int)) ∧ Int.toNat ((↑(List.length x) : Int) - (1 : Int)) < List.length x ∧ ∀ (x_4 : Nd), x[Int.toNat ((↑(List.length x) : Int) - (1 : Int))]? = some x_4 → ∃ (x' : Nd), ([AV.int IntKind.i64 x'.kind, AV.str x'.text] = [AV.int IntKind.i64 x_4.kind, AV.str x_4.text] ∧ [AV.bool x'.blank] = [AV.bool x_4.blank]) ∧ AV.sl false (0 : Nat) (1 : Nat) Int (fun (x : Int) => fzL (intA x)) (opre x i) = AV.sl false (0 : Nat) (1 : Nat) Int intA x'.kids ∧ bcase (decide ((↑(List.length (opre x i)) : Int) > (0 : Int))) (((0 : Int) ≤ (0 : Int) ∧ (0 : Int) < (↑(List.length (opre x i)) : Int)) ∧ ∀ (e : Int), (opre x i)[(0 : Nat)]? = some e → ((0 : Int) ≤ e ∧ e < (↑(List.length (List.set x (Int.toNat ((↑(List.length x) : Int) - (1 : Int))) x')) : Int)) ∧ Int.toNat e < List.length (List.set x (Int.toNat ((↑(List.length x) : Int) - (1 : Int))) x') ∧ ∀ (x_5 : Nd), (List.set x (Int.toNat ((↑(List.length x) : Int) - (1 : Int))) x')[Int.toNat e]? = some x_5 → ∃ (x'_1 : Nd), ([AV.int IntKind.i64 x'_1.kind, AV.str x'_1.text, AV.sl false (0 : Nat) (1 : Nat) Int intA x'_1.kids] = [AV.int IntKind.i64 x_5.kind, AV.str x_5.text, AV.sl false (0 : Nat) (1 : Nat) Int intA x_5.kids] ∧ (@List.nil AV) = []) ∧ false = x'_1.blank ∧ ∃ (x_6 : List Nd × Int × List Nd), putI bigN x_6 ∧ AV.sl false (0 : Nat) (4 : Nat) Nd (fun (x : Nd) => fzL (ndA false x)) (List.set (List.set x (Int.toNat ((↑(List.length x) : Int) - (1 : Int))) x') (Int.toNat e) x'_1) = AV.sl false (0 : Nat) (4 : Nat) Nd (ndA false) x_6.fst ∧ x_6.snd.snd = [] ∧ (↑(List.length x) : Int) - (1 : Int) = x_6.snd.fst ∧ ∀ (y : Unit), True → ∃ (y : Unit), True ∧ AV.sl true (0 : Nat) (4 : Nat) Nd (ndA true) (putN x_6.fst rId bigN x_6.snd.fst x_6.snd.snd) = AV.sl true (0 : Nat) (4 : Nat) Nd (ndA true) (orderedT x) ∧ True) (∃ (x_5 : List Nd × Int × List Nd), putI bigN x_5 ∧ AV.sl false (0 : Nat) (4 : Nat) Nd (fun (x : Nd) => fzL (ndA false x)) (List.set x (Int.toNat ((↑(List.length x) : Int) - (1 : Int))) x') = AV.sl false (0 : Nat) (4 : Nat) Nd (ndA false) x_5.fst ∧ x_5.snd.snd = [] ∧ (↑(List.length x) : Int) - (1 : Int) = x_5.snd.fst ∧ ∀ (y : Unit), True → ∃ (y : Unit), True ∧ AV.sl true (0 : Nat) (4 : Nat) Nd (ndA true) (putN x_5.fst rId bigN x_5.snd.fst x_5.snd.snd) = AV.sl true (0 : Nat) (4 : Nat) Nd (ndA true) (orderedT x) ∧ True)))) := by kernel_rfl
theorem iOrdered_ok  : Contract G Tryz.prog 31 s_iOrdered :=
  vcFun_ok (Γ := Γof [(52, 0, s_iTreeOk), (53, 0, s_copyNodes), (53, 1000000 + 18, s_copyNodesH), (19, 0, s_iOrderedGroups), (57, 0, (s_mO bigN))]) (E := Eof [(24, ⟨Nd,ndA true⟩), (39, ⟨Int,intA⟩)]) (ov := false) (L := fun x => Lof ([(7,lIOr x)])) Tryz.func31 rfl (by decide) (Γof_ok (l := [(52, 0, s_iTreeOk), (53, 0, s_copyNodes), (53, 1000000 + 18, s_copyNodesH), (19, 0, s_iOrderedGroups), (57, 0, (s_mO bigN))]) ⟨iTreeOk_ok, copyNodes_ok, copyNodesH_ok, iOrderedGroups_ok, (mO_all bigN), trivial⟩) fun (x : List Nd) (hx : (okNds x ∧ kidsB x) ∧ txtB x) => (iOrdered_vc  x).mpr (by
  obtain ⟨⟨h1, h2⟩, h4⟩ := hx; have hl := h1.1; have h3 := h2.1
  (repeat' first | refine ex_ndk (a := []) (b := []) ?_ | refine ex_ndb ?_ | with_reducible rfl | exact True.intro | refine inR_i64 ?_ ?_ | with_reducible refine And.intro ?_ ?_ | with_reducible refine bcase_dec (fun _ => ?_) (fun _ => ?_) | with_reducible refine bcase_bne (fun _ => ?_) (fun _ => ?_) | with_reducible refine bcase_beq (fun _ => ?_) (fun _ => ?_) | with_reducible refine bcase_not (fun _ => ?_) (fun _ => ?_) | refine bcase_intro (fun _ => ?_) (fun _ => ?_) | refine sl_eq ?_ | refine ex_flip () ?_ ?_ | (apply ex_flip6 <;> try dsimp only) | (apply ex_flip5 <;> try dsimp only) | (apply ex_flip4 <;> try dsimp only) | (apply ex_flip3 <;> try dsimp only) | (apply ex_flip2 <;> try dsimp only) | apply ex_flip | (refine Prod.forall.2 ?_; intro _; try dsimp only) | (intro _; try dsimp only))
  all_goals (try rw [oset_eq (by assumption) (by assumption) (by assumption)] at *)
  all_goals (try rw [oT_some (by assumption) (by assumption) (by assumption) (by assumption)])
  all_goals (try rw [oT_none (by assumption) (by assumption)])
  all_goals first
    | rfl
    | exact h1
    | exact h2
    | exact h3
    | exact h4
    | exact opre_0
    | exact putI_top (by assumption) h1
    | (have hq := ofirst_r (by assumption) (by assumption) (by assumption); (try simp only [ordN1, List.length_set]); omega)
    | exact opre_next1 (And.left (by assumption)) (by assumption) (by assumption)
    | exact opre_next2 (And.left (by assumption)) (by assumption) (by assumption)
    | (rw [orderedT, if_pos (by assumption)]; done)
    | (rw [orderedT, if_neg (by simp [*])]; done)
    | (have ht := tree_len (by assumption); have ho := (@orderedG_len x).1.1; (try simp only [i64max]); omega)
    | (have hq := opre_len2 (by assumption) (And.left (by assumption)) (by assumption); (try simp only [i64max, room, List.length_append, List.length_cons, List.length_nil]); omega)
    | ((try simp only [i64max]); omega)
    | skip)

end Go.My
end
section
/- Members in order: the reference's entry. -/
set_option linter.unusedVariables false
set_option linter.unusedSimpArgs false
set_option maxHeartbeats 8000000
namespace Go.My
open Go.Eng Go.Proofs
variable {G : GInv}

def bigM : Nat := 1073741824
theorem bigM_eq : bigN = bigM + 1 := bigN_eq
def gkA (x : List Nd) (i : Int) : List Int := match (orderedG x)[i.toNat]? with
  | some g => gk g
  | none => []
def oSt (x : List Nd) (l : List Int) : List Nd × List Int := l.foldl (oStep x bigM) ([], [])
def oS (x : List Nd) (i j : Int) : List Nd × List Int := oSt x (opre x i ++ (gkA x i).take j.toNat)
theorem oS_pre {x : List Nd} {i : Int} (h : i < ((orderedG x).length : Int)) (h0 : 0 ≤ i) : ∃ r, ordK x = opre x i ++ (gkA x i ++ r) := by
  have e : (orderedG x)[i.toNat]? = some ((orderedG x)[i.toNat]'(by omega)) := List.getElem?_eq_getElem (by omega)
  refine ⟨((orderedG x).drop (i.toNat + 1)).flatMap gk, ?_⟩
  have h2 : orderedG x = (orderedG x).take i.toNat ++ (orderedG x).drop i.toNat := (List.take_append_drop _ _).symm
  have h3 : ordK x = ((orderedG x).take i.toNat ++ (orderedG x).drop i.toNat).flatMap gk := by rw [← h2]; rfl
  rw [h3, List.flatMap_append, opre, gkA, e, dropE e, List.flatMap_cons]
theorem oS_0 {x : List Nd} {i : Int} : oS x i 0 = oSt x (opre x i) := by simp [oS]
theorem oS_end {x : List Nd} {i j : Int} {g : Gr} (h0 : 0 ≤ i) (hg : (orderedG x)[i.toNat]? = some g) (hj : ¬ j < ((gkA x i).length : Int)) : oS x i j = oSt x (opre x (i + 1)) := by
  have e : gkA x i = gk g := by rw [gkA, hg]
  rw [oS, List.take_of_length_le (by omega), e, opre, opre, toNat1 h0, takeE hg]
  simp
theorem oS_next {x : List Nd} {i j c : Int} (hj : 0 ≤ j) (hc : (gkA x i)[j.toNat]? = some c) : oStep x bigM (oS x i j) c = oS x i (j + 1) := by
  rw [oS, oS, toNat1 hj, takeE hc, ← List.append_assoc, oSt, oSt, List.foldl_append (l := opre x i ++ (gkA x i).take j.toNat)]; rfl
structure oBd (x : List Nd) (l : List Int) : Prop where
  a : (oSt x l).1.length ≤ 600
  b : (oSt x l).2.length ≤ 12
theorem oBd_of {x : List Nd} (h : treeOk x = true) {l r : List Int} (e : ordK x = l ++ r) : oBd x l := by
  have h4 := (tree1_of h).2.2.2
  have hl := (tree1_of h).2.2.1
  have hm : ∀ c ∈ l, okUp x c ∧ c < bigM := by
    intro c hc
    have hck : c ∈ ordK x := by rw [e]; simp [hc]
    have := okUp_kid h4 ((ordK_mem h).1 hck)
    refine ⟨this.1, ?_⟩
    unfold bigM; omega
  have h1 := @oFold_len x bigM l ([], []) hm
  have h2 := (@ord_vis x h bigM).2
  rw [e, List.flatMap_append, List.length_append] at h2
  have h5 := (ordK_perm h).length_eq
  have h6 := (fileKids_ok h).1
  rw [e, List.length_append] at h5
  have h7 := h1.1; have h8 := h1.2
  simp only [List.length_nil] at h7 h8
  exact ⟨by unfold oSt; omega, by unfold oSt; omega⟩
theorem oS_bd {x : List Nd} {i j : Int} (h : treeOk x = true) (h0 : 0 ≤ i) (hi : i < ((orderedG x).length : Int)) : oBd x (opre x i ++ (gkA x i).take j.toNat) ∧ (gkA x i).length ≤ 12 := by
  obtain ⟨r, hr⟩ := oS_pre hi h0
  have h5 := (ordK_perm h).length_eq
  have h6 := (fileKids_ok h).1
  refine ⟨oBd_of h (r := (gkA x i).drop j.toNat ++ r) ?_, ?_⟩
  · rw [List.append_assoc, ← List.append_assoc ((gkA x i).take j.toNat), List.take_append_drop]; exact hr
  · rw [hr] at h5; simp only [List.length_append] at h5; omega
theorem oS_kid {x : List Nd} {i j c : Int} (h : treeOk x = true) (h0 : 0 ≤ i) (hi : i < ((orderedG x).length : Int)) (hc : (gkA x i)[j.toNat]? = some c) : okUp x c ∧ c < bigM ∧ (vis x bigM c).length ≤ 300 := by
  obtain ⟨r, hr⟩ := oS_pre hi h0
  have hm : c ∈ ordK x := by rw [hr]; exact List.mem_append_right _ (List.mem_append_left _ (memE hc))
  have hk := okUp_kid (tree1_of h).2.2.2 ((ordK_mem h).1 hm)
  have hl := (tree1_of h).2.2.1
  refine ⟨hk.1, by unfold bigM; omega, ?_⟩
  have h2 := (@ord_vis x h bigM).2
  have : ∀ l : List Int, c ∈ l → (vis x bigM c).length ≤ (l.flatMap (vis x bigM)).length := by
    intro l
    induction l with
    | nil => intro hh; cases hh
    | cons d l ih =>
      intro hh
      rw [List.flatMap_cons, List.length_append]
      rcases List.mem_cons.1 hh with hh | hh
      · subst hh; omega
      · have := ih hh; omega
  have := this _ hm
  omega
theorem oS_put {x : List Nd} {i j c : Int} (h : treeOk x = true) (ho : okNds x) (h0 : 0 ≤ i) (hi : i < ((orderedG x).length : Int)) (hc : (gkA x i)[j.toNat]? = some c) : putI bigM (x, c, (oS x i j).1) := by
  obtain ⟨g1, g2, g3⟩ := oS_kid h h0 hi hc
  have hb := (@oS_bd x i j h h0 hi).1.a
  refine ⟨ho, g1, g2, ?_⟩
  show (oSt x _).1.length + 2 * _ ≤ 1048576
  simp only
  omega
theorem oS_plen {x : List Nd} {i j c : Int} (h : treeOk x = true) (h0 : 0 ≤ i) (hi : i < ((orderedG x).length : Int)) (hc : (gkA x i)[j.toNat]? = some c) : 1 ≤ (putN x rId bigM c (oS x i j).1).length ∧ (putN x rId bigM c (oS x i j).1).length ≤ 1200 := by
  obtain ⟨g1, g2, g3⟩ := oS_kid h h0 hi hc
  have hb := (@oS_bd x i j h h0 hi).1.a
  have := putN_bd (@rId_ok x) (n := bigM) (k := c) (out := (oS x i j).1) g1 g2
  have e : (oS x i j).1.length = (oSt x (opre x i ++ (gkA x i).take j.toNat)).1.length := rfl
  omega
theorem oT_end {x : List Nd} {i : Int} (h : treeOk x = true) (hi : ¬ i < ((orderedG x).length : Int)) : (oSt x (opre x i)).1 ++ [⟨22, [], (oSt x (opre x i)).2, false⟩] = orderedT x := by
  rw [opre_end hi]
  have hl := (tree1_of h).2.2.1
  exact (ordT_end h (m := bigM) (by unfold bigM; omega) bigM_eq).symm
theorem opre_bd {x : List Nd} {i : Int} (h : treeOk x = true) : oBd x (opre x i) := oBd_of h (r := ((orderedG x).drop i.toNat).flatMap gk) (by rw [opre, ← List.flatMap_append, List.take_append_drop]; rfl)
theorem oG_yes {x : List Nd} {i : Int} {g : Gr} (hg : (orderedG x)[i.toNat]? = some g) (hm : g.member ≥ 0) : [] ++ g.notes ++ [g.member] = gkA x i := by
  rw [gkA, hg]; simp [gk, hm]
theorem oG_no {x : List Nd} {i : Int} {g : Gr} (hg : (orderedG x)[i.toNat]? = some g) (hm : ¬ g.member ≥ 0) : g.notes = gkA x i := by
  rw [gkA, hg]
  have : ¬ 0 ≤ g.member := by omega
  simp [gk, this]
theorem oS_n1 {x : List Nd} {i j c : Int} (hj : 0 ≤ j) (hc : (gkA x i)[j.toNat]? = some c) : (oStep x bigM (oS x i j) c).1 = (oS x i (j + 1)).1 := by rw [oS_next hj hc]
theorem oS_n2 {x : List Nd} {i j c : Int} (hj : 0 ≤ j) (hc : (gkA x i)[j.toNat]? = some c) : (oS x i j).2 ++ [((putN x rId bigM c (oS x i j).1).length : Int) - 1] = (oS x i (j + 1)).2 := by rw [← oS_next hj hc]; rfl
theorem oS_on {x : List Nd} {i j c : Int} (h : ¬ ((oS x i j).2.length : Int) = 0) : putN x rId bigM c (oS x i j).1 = (oStep x bigM (oS x i j) c).1 := by
  have : (oS x i j).2 ≠ [] := by
    intro e; rw [e] at h; simp at h
  simp only [oStep, if_neg this]
theorem oS_off {x : List Nd} {i j c : Int} {e : Nd} (h : ((oS x i j).2.length : Int) = 0) (he : (putN x rId bigM c (oS x i j).1)[Int.toNat (((putN x rId bigM c (oS x i j).1).length : Int) - 1)]? = some e) :
    (putN x rId bigM c (oS x i j).1).set (Int.toNat (((putN x rId bigM c (oS x i j).1).length : Int) - 1)) (blankOff e) = (oStep x bigM (oS x i j) c).1 := by
  have : (oS x i j).2 = [] := List.length_eq_zero_iff.1 (by omega)
  simp only [oStep, if_pos this]
  have e1 : Int.toNat (((putN x rId bigM c (oS x i j).1).length : Int) - 1) = (putN x rId bigM c (oS x i j).1).length - 1 := by omega
  rw [e1] at he ⊢
  rw [offLast, List.getD_eq_getElem?_getD, he]; rfl
theorem opre_len3 {x : List Nd} {i : Int} {g : Gr} (hg : (orderedG x)[i.toNat]? = some g) (h : treeOk x = true) (h0 : 0 ≤ i) : (opre x i).length + g.notes.length ≤ 12 := opre_len2 h h0 hg
theorem oS_plen3 {x : List Nd} {i j c : Int} (hc : (gkA x i)[j.toNat]? = some c) (h : treeOk x = true) (h0 : 0 ≤ i) (hi : i < ((orderedG x).length : Int)) : (1 ≤ (putN x rId bigM c (oS x i j).1).length ∧ (putN x rId bigM c (oS x i j).1).length ≤ 1200) ∧ (oS x i j).2.length ≤ 12 ∧ (gkA x i).length ≤ 12 := ⟨oS_plen h h0 hi hc, (@oS_bd x i j h h0 hi).1.b, (@oS_bd x i j h h0 hi).2⟩
def bxO (ks : List Int) : AV := .box 0 [.int .i64 22, .str [], oints ks, .bool false]
def lSoJn (x : List Nd) (i j : Int) : LS := {
  ι := Int, inv := fun c => (gkA x i)[j.toNat]? = some c ∧ treeOk x = true,
  regs := fun c => [(0, nds x), (3, onds (oStep x bigM (oS x i j) c).1), (4, bxO (oS x i j).2), (5, hgrs (orderedG x)), (6, .int .i64 i), (7, ints (gkA x i)), (8, .int .i64 j), (9, .int .i64 ((putN x rId bigM c (oS x i j).1).length - 1))], als := [], meas := fun _ => 0 }
def lSoIn (x : List Nd) (i : Int) : LS := {
  ι := Int, inv := fun j => (0 ≤ j ∧ j ≤ (gkA x i).length) ∧ treeOk x = true ∧ (0 ≤ i ∧ i < (orderedG x).length),
  regs := fun j => [(0, nds x), (3, onds (oS x i j).1), (4, bxO (oS x i j).2), (5, hgrs (orderedG x)), (6, .int .i64 i), (7, ints (gkA x i)), (8, .int .i64 j)], als := [], meas := fun j => (gkA x i).length - j.toNat, sub := fun j => [(200019, lSoJn x i j)] }
def lSoMid (x : List Nd) (i : Int) : LS := {
  ι := Unit, inv := fun _ => treeOk x = true ∧ (0 ≤ i ∧ i < (orderedG x).length),
  regs := fun _ => [(0, nds x), (3, onds (oSt x (opre x i)).1), (4, bxO (oSt x (opre x i)).2), (5, hgrs (orderedG x)), (6, .int .i64 i), (7, ints (gkA x i))], als := [], meas := fun _ => 0 }
def lSoOut (x : List Nd) : LS := {
  ι := Int, inv := fun i => (0 ≤ i ∧ i ≤ (orderedG x).length) ∧ treeOk x = true,
  regs := fun i => [(0, nds x), (3, onds (oSt x (opre x i)).1), (4, bxO (oSt x (opre x i)).2), (5, hgrs (orderedG x)), (6, .int .i64 i)], als := [], meas := fun i => (orderedG x).length - i.toNat, sub := fun i => [(100011, lSoMid x i), (200012, lSoMid x i), (13, lSoIn x i)] }
theorem ex_ndbT {e : Nd} {q : Nd → Prop} (h : q (blankOff e)) :
    ∃ x' : Nd, ([AV.int IntKind.i64 x'.kind, AV.str x'.text, AV.sl true 0 1 Int intA x'.kids] = [AV.int IntKind.i64 e.kind, AV.str e.text, AV.sl true 0 1 Int intA e.kids] ∧ (@List.nil AV) = []) ∧ false = x'.blank ∧ q x' :=
  ⟨blankOff e, ⟨rfl, rfl⟩, rfl, h⟩
def s_sOrdered  : Sig := { X := List Nd, args := fun x => [nds x], pre := fun x => (okNds x ∧ kidsB x) ∧ txtB x, Y := Unit, post := fun x y => True, res := fun x y => onds (orderedT x), outs := fun x y => [.top], keep := false }
theorem sOrdered_vc (x : List Nd) : vcFun Go.Proofs.Tryz.prog (Γof [(48, 0, s_sTreeOk), (49, 0, s_l05Copy), (18, 0, s_sOrderedGroups), (74, 0, (s_oP bigM))]) (Eof [(24, ⟨Nd,ndA true⟩), (39, ⟨Int,intA⟩)]) false (Lof ([(7,lSoOut x)])) Go.Proofs.Tryz.f30.ntmps Go.Proofs.Tryz.f30.results.toList (Go.Proofs.Tryz.f30.body.getD .skip) s_sOrdered x = ((∀ (y : Unit), True → (∀ (x : Nd), True ∧ True ∧ (∀ (x : Int), True ∧ True) ∧ True ∧ True) ∧ True ∧ True) ∧ ∃ (x_1 : List Nd), (okNds x_1 ∧ List.length x_1 ≤ (1073741824 : Nat)) ∧ AV.sl false (0 : Nat) (4 : Nat) Nd (ndA false) x = AV.sl false (0 : Nat) (4 : Nat) Nd (ndA false) x_1 ∧ ∀ (y : Unit), True → bcase (!treeOk x_1) (∃ (x_2 : List Nd), kidsB x_2 ∧ AV.sl false (0 : Nat) (4 : Nat) Nd (ndA false) x = AV.sl false (0 : Nat) (4 : Nat) Nd (ndA false) x_2 ∧ ∀ (y : Unit), True → ∃ (y : Unit), True ∧ AV.sl true (0 : Nat) (4 : Nat) Nd (ndA true) x_2 = AV.sl true (0 : Nat) (4 : Nat) Nd (ndA true) (orderedT x) ∧ True) (∃ (x_2 : List Nd), ((okNds x_2 ∧ List.length x_2 ≤ (1073741824 : Nat)) ∧ txtB x_2) ∧ AV.sl false (0 : Nat) (4 : Nat) Nd (ndA false) x = AV.sl false (0 : Nat) (4 : Nat) Nd (ndA false) x_2 ∧ ∀ (y : Unit), True → (∃ (i : Int), (((0 : Int) ≤ i ∧ i ≤ (↑(List.length (orderedG x)) : Int)) ∧ treeOk x = true) ∧ (AV.sl false (0 : Nat) (4 : Nat) Nd (ndA false) x = AV.sl false (0 : Nat) (4 : Nat) Nd (ndA false) x ∧ AV.sl true (0 : Nat) (4 : Nat) Nd (ndA true) [] = AV.sl true (0 : Nat) (4 : Nat) Nd (ndA true) (oSt x (opre x i)).fst ∧ (22 : Int) = (22 : Int) ∧ (#[] : Array UInt8).toList = [] ∧ AV.sl true (0 : Nat) (1 : Nat) Int intA [] = AV.sl true (0 : Nat) (1 : Nat) Int intA (oSt x (opre x i)).snd ∧ false = false ∧ AV.sl true (0 : Nat) (2 : Nat) Gr (grA false) (orderedG x_2) = AV.sl true (0 : Nat) (2 : Nat) Gr (grA false) (orderedG x) ∧ (0 : Int) = i ∧ True) ∧ True) ∧ ∀ (i : Int), ((0 : Int) ≤ i ∧ i ≤ (↑(List.length (orderedG x)) : Int)) ∧ treeOk x = true → bcase (decide (i < (↑(List.length (orderedG x)) : Int))) (((0 : Int) ≤ i ∧ i < (↑(List.length (orderedG x)) : Int)) ∧ Int.toNat i < List.length (orderedG x) ∧ ∀ (x_3 : Gr), (orderedG x)[Int.toNat i]? = some x_3 → (((0 : Int) ≤ i ∧ i < (↑(List.length (orderedG x)) : Int)) ∧ Int.toNat i < List.length (orderedG x) ∧ ∀ (x_4 : Gr), (orderedG x)[Int.toNat i]? = some x_4 → bcase (decide (x_4.member ≥ (0 : Int))) (true = true ∧ (((0 : Int) ≤ i ∧ i < (↑(List.length (orderedG x)) : Int)) ∧ ((∃ (zs : List Int), AV.sl false (0 : Nat) (1 : Nat) Int intA x_3.notes = AV.sl false (0 : Nat) (1 : Nat) Int intA zs ∧ leafy intA ∧ room ((0 : Nat) + List.length zs) (8 : Nat) ∧ Int.toNat i < List.length (orderedG x) ∧ ∀ (x_5 : Gr), (orderedG x)[Int.toNat i]? = some x_5 → ∃ (x_6 : Int), x_5.member = x_6 ∧ ∃ (zs_1 : List Int), AV.sl true (0 : Nat) (1 : Nat) Int intA [x_6] = AV.sl true (0 : Nat) (1 : Nat) Int intA zs_1 ∧ leafy intA ∧ room (List.length ([] ++ zs) + List.length zs_1) (8 : Nat) ∧ true = true ∧ ∃ (i_1 : Unit), (treeOk x = true ∧ (0 : Int) ≤ i ∧ i < (↑(List.length (orderedG x)) : Int)) ∧ (AV.sl false (0 : Nat) (4 : Nat) Nd (ndA false) x = AV.sl false (0 : Nat) (4 : Nat) Nd (ndA false) x ∧ AV.sl true (0 : Nat) (4 : Nat) Nd (ndA true) (oSt x (opre x i)).fst = AV.sl true (0 : Nat) (4 : Nat) Nd (ndA true) (oSt x (opre x i)).fst ∧ (22 : Int) = (22 : Int) ∧ (@List.nil UInt8) = [] ∧ AV.sl true (0 : Nat) (1 : Nat) Int intA (oSt x (opre x i)).snd = AV.sl true (0 : Nat) (1 : Nat) Int intA (oSt x (opre x i)).snd ∧ false = false ∧ AV.sl true (0 : Nat) (2 : Nat) Gr (grA false) (orderedG x) = AV.sl true (0 : Nat) (2 : Nat) Gr (grA false) (orderedG x) ∧ i = i ∧ AV.sl false (0 : Nat) (1 : Nat) Int (fun (x : Int) => fzL (intA x)) ([] ++ zs ++ zs_1) = AV.sl false (0 : Nat) (1 : Nat) Int intA (gkA x i) ∧ True) ∧ True) ∧ Int.toNat i < List.length (orderedG x) ∧ ∀ (x_5 : Gr), (orderedG x)[Int.toNat i]? = some x_5 → (∃ (zs : List Int), AV.sl false (0 : Nat) (1 : Nat) Int intA x_3.notes = AV.sl false (0 : Nat) (1 : Nat) Int intA zs ∧ leafy intA ∧ room ((0 : Nat) + List.length zs) (8 : Nat) ∧ ∃ (x_6 : Int), x_5.member = x_6 ∧ ∃ (zs_1 : List Int), AV.sl true (0 : Nat) (1 : Nat) Int intA [x_6] = AV.sl true (0 : Nat) (1 : Nat) Int intA zs_1 ∧ leafy intA ∧ room (List.length ([] ++ zs) + List.length zs_1) (8 : Nat) ∧ true = true ∧ ∃ (i_1 : Unit), (treeOk x = true ∧ (0 : Int) ≤ i ∧ i < (↑(List.length (orderedG x)) : Int)) ∧ (AV.sl false (0 : Nat) (4 : Nat) Nd (ndA false) x = AV.sl false (0 : Nat) (4 : Nat) Nd (ndA false) x ∧ AV.sl true (0 : Nat) (4 : Nat) Nd (ndA true) (oSt x (opre x i)).fst = AV.sl true (0 : Nat) (4 : Nat) Nd (ndA true) (oSt x (opre x i)).fst ∧ (22 : Int) = (22 : Int) ∧ (@List.nil UInt8) = [] ∧ AV.sl true (0 : Nat) (1 : Nat) Int intA (oSt x (opre x i)).snd = AV.sl true (0 : Nat) (1 : Nat) Int intA (oSt x (opre x i)).snd ∧ false = false ∧ AV.sl true (0 : Nat) (2 : Nat) Gr (grA false) (orderedG x) = AV.sl true (0 : Nat) (2 : Nat) Gr (grA false) (orderedG x) ∧ i = i ∧ AV.sl false (0 : Nat) (1 : Nat) Int (fun (x : Int) => fzL (intA x)) ([] ++ zs ++ zs_1) = AV.sl false (0 : Nat) (1 : Nat) Int intA (gkA x i) ∧ True) ∧ True) ∧ ∃ (x_6 : Int), x_5.member = x_6 ∧ ∃ (zs : List Int), AV.sl false (0 : Nat) (1 : Nat) Int intA x_3.notes = AV.sl false (0 : Nat) (1 : Nat) Int intA zs ∧ leafy intA ∧ room ((0 : Nat) + List.length zs) (8 : Nat) ∧ ∃ (zs_1 : List Int), AV.sl true (0 : Nat) (1 : Nat) Int intA [x_6] = AV.sl true (0 : Nat) (1 : Nat) Int intA zs_1 ∧ leafy intA ∧ room (List.length ([] ++ zs) + List.length zs_1) (8 : Nat) ∧ true = true ∧ ∃ (i_1 : Unit), (treeOk x = true ∧ (0 : Int) ≤ i ∧ i < (↑(List.length (orderedG x)) : Int)) ∧ (AV.sl false (0 : Nat) (4 : Nat) Nd (ndA false) x = AV.sl false (0 : Nat) (4 : Nat) Nd (ndA false) x ∧ AV.sl true (0 : Nat) (4 : Nat) Nd (ndA true) (oSt x (opre x i)).fst = AV.sl true (0 : Nat) (4 : Nat) Nd (ndA true) (oSt x (opre x i)).fst ∧ (22 : Int) = (22 : Int) ∧ (@List.nil UInt8) = [] ∧ AV.sl true (0 : Nat) (1 : Nat) Int intA (oSt x (opre x i)).snd = AV.sl true (0 : Nat) (1 : Nat) Int intA (oSt x (opre x i)).snd ∧ false = false ∧ AV.sl true (0 : Nat) (2 : Nat) Gr (grA false) (orderedG x) = AV.sl true (0 : Nat) (2 : Nat) Gr (grA false) (orderedG x) ∧ i = i ∧ AV.sl false (0 : Nat) (1 : Nat) Int (fun (x : Int) => fzL (intA x)) ([] ++ zs ++ zs_1) = AV.sl false (0 : Nat) (1 : Nat) Int intA (gkA x i) ∧ True) ∧ True) ∧ Int.toNat i < List.length (orderedG x) ∧ ∀ (x_5 : Gr), (orderedG x)[Int.toNat i]? = some x_5 → ((∃ (zs : List Int), AV.sl false (0 : Nat) (1 : Nat) Int intA x_3.notes = AV.sl false (0 : Nat) (1 : Nat) Int intA zs ∧ leafy intA ∧ room ((0 : Nat) + List.length zs) (8 : Nat) ∧ ∃ (x_6 : Int), x_5.member = x_6 ∧ ∃ (zs_1 : List Int), AV.sl true (0 : Nat) (1 : Nat) Int intA [x_6] = AV.sl true (0 : Nat) (1 : Nat) Int intA zs_1 ∧ leafy intA ∧ room (List.length ([] ++ zs) + List.length zs_1) (8 : Nat) ∧ true = true ∧ ∃ (i_1 : Unit), (treeOk x = true ∧ (0 : Int) ≤ i ∧ i < (↑(List.length (orderedG x)) : Int)) ∧ (AV.sl false (0 : Nat) (4 : Nat) Nd (ndA false) x = AV.sl false (0 : Nat) (4 : Nat) Nd (ndA false) x ∧ AV.sl true (0 : Nat) (4 : Nat) Nd (ndA true) (oSt x (opre x i)).fst = AV.sl true (0 : Nat) (4 : Nat) Nd (ndA true) (oSt x (opre x i)).fst ∧ (22 : Int) = (22 : Int) ∧ (@List.nil UInt8) = [] ∧ AV.sl true (0 : Nat) (1 : Nat) Int intA (oSt x (opre x i)).snd = AV.sl true (0 : Nat) (1 : Nat) Int intA (oSt x (opre x i)).snd ∧ false = false ∧ AV.sl true (0 : Nat) (2 : Nat) Gr (grA false) (orderedG x) = AV.sl true (0 : Nat) (2 : Nat) Gr (grA false) (orderedG x) ∧ i = i ∧ AV.sl false (0 : Nat) (1 : Nat) Int (fun (x : Int) => fzL (intA x)) ([] ++ zs ++ zs_1) = AV.sl false (0 : Nat) (1 : Nat) Int intA (gkA x i) ∧ True) ∧ True) ∧ ∃ (x_6 : Int), x_5.member = x_6 ∧ ∃ (zs : List Int), AV.sl false (0 : Nat) (1 : Nat) Int intA x_3.notes = AV.sl false (0 : Nat) (1 : Nat) Int intA zs ∧ leafy intA ∧ room ((0 : Nat) + List.length zs) (8 : Nat) ∧ ∃ (zs_1 : List Int), AV.sl true (0 : Nat) (1 : Nat) Int intA [x_6] = AV.sl true (0 : Nat) (1 : Nat) Int intA zs_1 ∧ leafy intA ∧ room (List.length ([] ++ zs) + List.length zs_1) (8 : Nat) ∧ true = true ∧ ∃ (i_1 : Unit), (treeOk x = true ∧ (0 : Int) ≤ i ∧ i < (↑(List.length (orderedG x)) : Int)) ∧ (AV.sl false (0 : Nat) (4 : Nat) Nd (ndA false) x = AV.sl false (0 : Nat) (4 : Nat) Nd (ndA false) x ∧ AV.sl true (0 : Nat) (4 : Nat) Nd (ndA true) (oSt x (opre x i)).fst = AV.sl true (0 : Nat) (4 : Nat) Nd (ndA true) (oSt x (opre x i)).fst ∧ (22 : Int) = (22 : Int) ∧ (@List.nil UInt8) = [] ∧ AV.sl true (0 : Nat) (1 : Nat) Int intA (oSt x (opre x i)).snd = AV.sl true (0 : Nat) (1 : Nat) Int intA (oSt x (opre x i)).snd ∧ false = false ∧ AV.sl true (0 : Nat) (2 : Nat) Gr (grA false) (orderedG x) = AV.sl true (0 : Nat) (2 : Nat) Gr (grA false) (orderedG x) ∧ i = i ∧ AV.sl false (0 : Nat) (1 : Nat) Int (fun (x : Int) => fzL (intA x)) ([] ++ zs ++ zs_1) = AV.sl false (0 : Nat) (1 : Nat) Int intA (gkA x i) ∧ True) ∧ True) ∧ ∃ (x_6 : Int), x_5.member = x_6 ∧ ∃ (zs : List Int), AV.sl false (0 : Nat) (1 : Nat) Int intA x_3.notes = AV.sl false (0 : Nat) (1 : Nat) Int intA zs ∧ leafy intA ∧ room ((0 : Nat) + List.length zs) (8 : Nat) ∧ ∃ (zs_1 : List Int), AV.sl true (0 : Nat) (1 : Nat) Int intA [x_6] = AV.sl true (0 : Nat) (1 : Nat) Int intA zs_1 ∧ leafy intA ∧ room (List.length ([] ++ zs) + List.length zs_1) (8 : Nat) ∧ true = true ∧ ∃ (i_1 : Unit), (treeOk x = true ∧ (0 : Int) ≤ i ∧ i < (↑(List.length (orderedG x)) : Int)) ∧ (AV.sl false (0 : Nat) (4 : Nat) Nd (ndA false) x = AV.sl false (0 : Nat) (4 : Nat) Nd (ndA false) x ∧ AV.sl true (0 : Nat) (4 : Nat) Nd (ndA true) (oSt x (opre x i)).fst = AV.sl true (0 : Nat) (4 : Nat) Nd (ndA true) (oSt x (opre x i)).fst ∧ (22 : Int) = (22 : Int) ∧ (@List.nil UInt8) = [] ∧ AV.sl true (0 : Nat) (1 : Nat) Int intA (oSt x (opre x i)).snd = AV.sl true (0 : Nat) (1 : Nat) Int intA (oSt x (opre x i)).snd ∧ false = false ∧ AV.sl true (0 : Nat) (2 : Nat) Gr (grA false) (orderedG x) = AV.sl true (0 : Nat) (2 : Nat) Gr (grA false) (orderedG x) ∧ i = i ∧ AV.sl false (0 : Nat) (1 : Nat) Int (fun (x : Int) => fzL (intA x)) ([] ++ zs ++ zs_1) = AV.sl false (0 : Nat) (1 : Nat) Int intA (gkA x i) ∧ True) ∧ True) ∧ ∀ (i_1 : Unit), treeOk x = true ∧ (0 : Int) ≤ i ∧ i < (↑(List.length (orderedG x)) : Int) → ∃ (i_2 : Unit), (treeOk x = true ∧ (0 : Int) ≤ i ∧ i < (↑(List.length (orderedG x)) : Int)) ∧ (AV.sl false (0 : Nat) (4 : Nat) Nd (ndA false) x = AV.sl false (0 : Nat) (4 : Nat) Nd (ndA false) x ∧ AV.sl true (0 : Nat) (4 : Nat) Nd (ndA true) (oSt x (opre x i)).fst = AV.sl true (0 : Nat) (4 : Nat) Nd (ndA true) (oSt x (opre x i)).fst ∧ (22 : Int) = (22 : Int) ∧ (@List.nil UInt8) = [] ∧ AV.sl true (0 : Nat) (1 : Nat) Int intA (oSt x (opre x i)).snd = AV.sl true (0 : Nat) (1 : Nat) Int intA (oSt x (opre x i)).snd ∧ false = false ∧ AV.sl true (0 : Nat) (2 : Nat) Gr (grA false) (orderedG x) = AV.sl true (0 : Nat) (2 : Nat) Gr (grA false) (orderedG x) ∧ i = i ∧ AV.sl false (0 : Nat) (1 : Nat) Int intA (gkA x i) = AV.sl false (0 : Nat) (1 : Nat) Int intA (gkA x i) ∧ True) ∧ True) (∃ (i_1 : Unit), (treeOk x = true ∧ (0 : Int) ≤ i ∧ i < (↑(List.length (orderedG x)) : Int)) ∧ (AV.sl false (0 : Nat) (4 : Nat) Nd (ndA false) x = AV.sl false (0 : Nat) (4 : Nat) Nd (ndA false) x ∧ AV.sl true (0 : Nat) (4 : Nat) Nd (ndA true) (oSt x (opre x i)).fst = AV.sl true (0 : Nat) (4 : Nat) Nd (ndA true) (oSt x (opre x i)).fst ∧ (22 : Int) = (22 : Int) ∧ (@List.nil UInt8) = [] ∧ AV.sl true (0 : Nat) (1 : Nat) Int intA (oSt x (opre x i)).snd = AV.sl true (0 : Nat) (1 : Nat) Int intA (oSt x (opre x i)).snd ∧ false = false ∧ AV.sl true (0 : Nat) (2 : Nat) Gr (grA false) (orderedG x) = AV.sl true (0 : Nat) (2 : Nat) Gr (grA false) (orderedG x) ∧ i = i ∧ AV.sl false (0 : Nat) (1 : Nat) Int intA x_3.notes = AV.sl false (0 : Nat) (1 : Nat) Int intA (gkA x i) ∧ True) ∧ True)) ∧ ∀ (i_1 : Unit), treeOk x = true ∧ (0 : Int) ≤ i ∧ i < (↑(List.length (orderedG x)) : Int) → (∃ (i_2 : Int), (((0 : Int) ≤ i_2 ∧ i_2 ≤ (↑(List.length (gkA x i)) : Int)) ∧ treeOk x = true ∧ (0 : Int) ≤ i ∧ i < (↑(List.length (orderedG x)) : Int)) ∧ (AV.sl false (0 : Nat) (4 : Nat) Nd (ndA false) x = AV.sl false (0 : Nat) (4 : Nat) Nd (ndA false) x ∧ AV.sl true (0 : Nat) (4 : Nat) Nd (ndA true) (oSt x (opre x i)).fst = AV.sl true (0 : Nat) (4 : Nat) Nd (ndA true) (oS x i i_2).fst ∧ (22 : Int) = (22 : Int) ∧ (@List.nil UInt8) = [] ∧ AV.sl true (0 : Nat) (1 : Nat) Int intA (oSt x (opre x i)).snd = AV.sl true (0 : Nat) (1 : Nat) Int intA (oS x i i_2).snd ∧ false = false ∧ AV.sl true (0 : Nat) (2 : Nat) Gr (grA false) (orderedG x) = AV.sl true (0 : Nat) (2 : Nat) Gr (grA false) (orderedG x) ∧ i = i ∧ AV.sl false (0 : Nat) (1 : Nat) Int intA (gkA x i) = AV.sl false (0 : Nat) (1 : Nat) Int intA (gkA x i) ∧ (0 : Int) = i_2 ∧ True) ∧ True) ∧ ∀ (i_2 : Int), ((0 : Int) ≤ i_2 ∧ i_2 ≤ (↑(List.length (gkA x i)) : Int)) ∧ treeOk x = true ∧ (0 : Int) ≤ i ∧ i < (↑(List.length (orderedG x)) : Int) → bcase (decide (i_2 < (↑(List.length (gkA x i)) : Int))) (((0 : Int) ≤ i_2 ∧ i_2 < (↑(List.length (gkA x i)) : Int)) ∧ ∀ (e : Int), (gkA x i)[Int.toNat i_2]? = some e → ∃ (x_4 : List Nd × Int × List Nd), putI bigM x_4 ∧ AV.sl true (0 : Nat) (4 : Nat) Nd (ndA true) (oS x i i_2).fst = AV.sl true (0 : Nat) (4 : Nat) Nd (ndA true) x_4.snd.snd ∧ AV.sl false (0 : Nat) (4 : Nat) Nd (ndA false) x = AV.sl false (0 : Nat) (4 : Nat) Nd (ndA false) x_4.fst ∧ e = x_4.snd.fst ∧ ∀ (y : Unit), True → bcase ((↑(List.length (oS x i i_2).snd) : Int) == (0 : Int)) (((0 : Int) ≤ (↑(List.length (putN x_4.fst rId bigM x_4.snd.fst x_4.snd.snd)) : Int) - (1 : Int) ∧ (↑(List.length (putN x_4.fst rId bigM x_4.snd.fst x_4.snd.snd)) : Int) - (1 : Int) < (↑(List.length (putN x_4.fst rId bigM x_4.snd.fst x_4.snd.snd)) : Int)) ∧ Int.toNat ((↑(List.length (putN x_4.fst rId bigM x_4.snd.fst x_4.snd.snd)) : Int) - (1 : Int)) < List.length (putN x_4.fst rId bigM x_4.snd.fst x_4.snd.snd) ∧ ∀ (x_5 : Nd), (putN x_4.fst rId bigM x_4.snd.fst x_4.snd.snd)[Int.toNat ((↑(List.length (putN x_4.fst rId bigM x_4.snd.fst x_4.snd.snd)) : Int) - (1 : Int))]? = some x_5 → ∃ (x' : Nd), ([AV.int IntKind.i64 x'.kind, AV.str x'.text, AV.sl true (0 : Nat) (1 : Nat) Int intA x'.kids] = [AV.int IntKind.i64 x_5.kind, AV.str x_5.text, AV.sl true (0 : Nat) (1 : Nat) Int intA x_5.kids] ∧ (@List.nil AV) = []) ∧ false = x'.blank ∧ ∃ (i_3 : Int), ((gkA x i)[Int.toNat i_2]? = some i_3 ∧ treeOk x = true) ∧ (AV.sl false (0 : Nat) (4 : Nat) Nd (ndA false) x = AV.sl false (0 : Nat) (4 : Nat) Nd (ndA false) x ∧ AV.sl true (0 : Nat) (4 : Nat) Nd (ndA true) (List.set (putN x_4.fst rId bigM x_4.snd.fst x_4.snd.snd) (Int.toNat ((↑(List.length (putN x_4.fst rId bigM x_4.snd.fst x_4.snd.snd)) : Int) - (1 : Int))) x') = AV.sl true (0 : Nat) (4 : Nat) Nd (ndA true) (oStep x bigM (oS x i i_2) i_3).fst ∧ (22 : Int) = (22 : Int) ∧ (@List.nil UInt8) = [] ∧ AV.sl true (0 : Nat) (1 : Nat) Int intA (oS x i i_2).snd = AV.sl true (0 : Nat) (1 : Nat) Int intA (oS x i i_2).snd ∧ false = false ∧ AV.sl true (0 : Nat) (2 : Nat) Gr (grA false) (orderedG x) = AV.sl true (0 : Nat) (2 : Nat) Gr (grA false) (orderedG x) ∧ i = i ∧ AV.sl false (0 : Nat) (1 : Nat) Int intA (gkA x i) = AV.sl false (0 : Nat) (1 : Nat) Int intA (gkA x i) ∧ i_2 = i_2 ∧ (↑(List.length (putN x_4.fst rId bigM x_4.snd.fst x_4.snd.snd)) : Int) - (1 : Int) = (↑(List.length (putN x rId bigM i_3 (oS x i i_2).fst)) : Int) - (1 : Int) ∧ True) ∧ True) (∃ (i_3 : Int), ((gkA x i)[Int.toNat i_2]? = some i_3 ∧ treeOk x = true) ∧ (AV.sl false (0 : Nat) (4 : Nat) Nd (ndA false) x = AV.sl false (0 : Nat) (4 : Nat) Nd (ndA false) x ∧ AV.sl true (0 : Nat) (4 : Nat) Nd (ndA true) (putN x_4.fst rId bigM x_4.snd.fst x_4.snd.snd) = AV.sl true (0 : Nat) (4 : Nat) Nd (ndA true) (oStep x bigM (oS x i i_2) i_3).fst ∧ (22 : Int) = (22 : Int) ∧ (@List.nil UInt8) = [] ∧ AV.sl true (0 : Nat) (1 : Nat) Int intA (oS x i i_2).snd = AV.sl true (0 : Nat) (1 : Nat) Int intA (oS x i i_2).snd ∧ false = false ∧ AV.sl true (0 : Nat) (2 : Nat) Gr (grA false) (orderedG x) = AV.sl true (0 : Nat) (2 : Nat) Gr (grA false) (orderedG x) ∧ i = i ∧ AV.sl false (0 : Nat) (1 : Nat) Int intA (gkA x i) = AV.sl false (0 : Nat) (1 : Nat) Int intA (gkA x i) ∧ i_2 = i_2 ∧ (↑(List.length (putN x_4.fst rId bigM x_4.snd.fst x_4.snd.snd)) : Int) - (1 : Int) = (↑(List.length (putN x rId bigM i_3 (oS x i i_2).fst)) : Int) - (1 : Int) ∧ True) ∧ True) ∧ ∀ (i_3 : Int), (gkA x i)[Int.toNat i_2]? = some i_3 ∧ treeOk x = true → ∃ (x_5 : Int), (↑(List.length (putN x rId bigM i_3 (oS x i i_2).fst)) : Int) - (1 : Int) = x_5 ∧ ∃ (zs : List Int), AV.sl true (0 : Nat) (1 : Nat) Int intA [x_5] = AV.sl true (0 : Nat) (1 : Nat) Int intA zs ∧ leafy intA ∧ room (List.length (oS x i i_2).snd + List.length zs) (8 : Nat) ∧ inR IntKind.i64 (i_2 + (1 : Int)) ∧ ∃ (i' : Int), (((0 : Int) ≤ i' ∧ i' ≤ (↑(List.length (gkA x i)) : Int)) ∧ treeOk x = true ∧ (0 : Int) ≤ i ∧ i < (↑(List.length (orderedG x)) : Int)) ∧ List.length (gkA x i) - Int.toNat i' < List.length (gkA x i) - Int.toNat i_2 ∧ (AV.sl false (0 : Nat) (4 : Nat) Nd (ndA false) x = AV.sl false (0 : Nat) (4 : Nat) Nd (ndA false) x ∧ AV.sl true (0 : Nat) (4 : Nat) Nd (ndA true) (oStep x bigM (oS x i i_2) i_3).fst = AV.sl true (0 : Nat) (4 : Nat) Nd (ndA true) (oS x i i').fst ∧ (22 : Int) = (22 : Int) ∧ (@List.nil UInt8) = [] ∧ AV.sl true (0 : Nat) (1 : Nat) Int intA ((oS x i i_2).snd ++ zs) = AV.sl true (0 : Nat) (1 : Nat) Int intA (oS x i i').snd ∧ false = false ∧ AV.sl true (0 : Nat) (2 : Nat) Gr (grA false) (orderedG x) = AV.sl true (0 : Nat) (2 : Nat) Gr (grA false) (orderedG x) ∧ i = i ∧ AV.sl false (0 : Nat) (1 : Nat) Int intA (gkA x i) = AV.sl false (0 : Nat) (1 : Nat) Int intA (gkA x i) ∧ i_2 + (1 : Int) = i' ∧ True) ∧ True) (inR IntKind.i64 (i + (1 : Int)) ∧ ∃ (i' : Int), (((0 : Int) ≤ i' ∧ i' ≤ (↑(List.length (orderedG x)) : Int)) ∧ treeOk x = true) ∧ List.length (orderedG x) - Int.toNat i' < List.length (orderedG x) - Int.toNat i ∧ (AV.sl false (0 : Nat) (4 : Nat) Nd (ndA false) x = AV.sl false (0 : Nat) (4 : Nat) Nd (ndA false) x ∧ AV.sl true (0 : Nat) (4 : Nat) Nd (ndA true) (oS x i i_2).fst = AV.sl true (0 : Nat) (4 : Nat) Nd (ndA true) (oSt x (opre x i')).fst ∧ (22 : Int) = (22 : Int) ∧ (@List.nil UInt8) = [] ∧ AV.sl true (0 : Nat) (1 : Nat) Int intA (oS x i i_2).snd = AV.sl true (0 : Nat) (1 : Nat) Int intA (oSt x (opre x i')).snd ∧ false = false ∧ AV.sl true (0 : Nat) (2 : Nat) Gr (grA false) (orderedG x) = AV.sl true (0 : Nat) (2 : Nat) Gr (grA false) (orderedG x) ∧ i + (1 : Int) = i' ∧ True) ∧ True)) (∃ (x_3 : Nd), (22 : Int) = x_3.kind ∧ [] = x_3.text ∧ AV.sl true (0 : Nat) (1 : Nat) Int intA (oSt x (opre x i)).snd = AV.sl true (0 : Nat) (1 : Nat) Int intA x_3.kids ∧ false = x_3.blank ∧ ∃ (zs : List Nd), AV.sl true (0 : Nat) (4 : Nat) Nd (ndA true) [x_3] = AV.sl true (0 : Nat) (4 : Nat) Nd (ndA true) zs ∧ leafy (ndA true) ∧ room (List.length (oSt x (opre x i)).fst + List.length zs) (56 : Nat) ∧ ∃ (y : Unit), True ∧ AV.sl true (0 : Nat) (4 : Nat) Nd (ndA true) ((oSt x (opre x i)).fst ++ zs) = AV.sl true (0 : Nat) (4 : Nat) Nd (ndA true) (orderedT x) ∧ True))) := by kernel_rfl
theorem sOrdered_ok  : Contract G Tryz.prog 30 s_sOrdered :=
  vcFun_ok (Γ := Γof [(48, 0, s_sTreeOk), (49, 0, s_l05Copy), (18, 0, s_sOrderedGroups), (74, 0, (s_oP bigM))]) (E := Eof [(24, ⟨Nd,ndA true⟩), (39, ⟨Int,intA⟩)]) (ov := false) (L := fun x => Lof ([(7,lSoOut x)])) Tryz.func30 rfl (by decide) (Γof_ok (l := [(48, 0, s_sTreeOk), (49, 0, s_l05Copy), (18, 0, s_sOrderedGroups), (74, 0, (s_oP bigM))]) ⟨sTreeOk_ok, l05Copy_ok, sOrderedGroups_ok, (oP_all bigM), trivial⟩) fun (x : List Nd) (hx : (okNds x ∧ kidsB x) ∧ txtB x) => (sOrdered_vc  x).mpr (by
  obtain ⟨⟨h1, h2⟩, h4⟩ := hx; have hl := h1.1; have h3 := h2.1
  (repeat' first | refine ex_ndbT ?_ | refine ex_ndp ?_ | with_reducible rfl | exact True.intro | refine inR_i64 ?_ ?_ | with_reducible refine And.intro ?_ ?_ | with_reducible refine bcase_dec (fun _ => ?_) (fun _ => ?_) | with_reducible refine bcase_bne (fun _ => ?_) (fun _ => ?_) | with_reducible refine bcase_beq (fun _ => ?_) (fun _ => ?_) | with_reducible refine bcase_not (fun _ => ?_) (fun _ => ?_) | refine bcase_intro (fun _ => ?_) (fun _ => ?_) | refine sl_eq ?_ | refine ex_flip () ?_ ?_ | (apply ex_flip6 <;> try dsimp only) | (apply ex_flip5 <;> try dsimp only) | (apply ex_flip4 <;> try dsimp only) | (apply ex_flip3 <;> try dsimp only) | (apply ex_flip2 <;> try dsimp only) | apply ex_flip | (refine Prod.forall.2 ?_; intro _; try dsimp only) | (intro _; try dsimp only))
  all_goals (repeat (rename (orderedG x)[Int.toNat _]? = some _ => hq; revert hq; rename (orderedG x)[Int.toNat _]? = some _ => hr; intro hq; rw [hr] at hq; cases hq))
  all_goals first
    | rfl
    | exact h1
    | exact h2
    | exact h3
    | exact h4
    | assumption
    | omega
    | (rw [orderedT, if_pos (by assumption)]; done)
    | (rw [orderedT, if_neg (by simp [*])]; done)
    | (rw [opre_0]; rfl)
    | (rw [oS_0]; done)
    | exact oS_put (by assumption) h1 (by omega) (by omega) (by assumption)
    | exact oG_yes (by assumption) (by assumption)
    | exact oG_no (by assumption) (by assumption)
    | (rw [oS_end (by omega) (by assumption) (by omega)]; done)
    | exact oT_end (by assumption) (by assumption)
    | exact oS_n1 (by omega) (And.left (by assumption))
    | exact oS_n2 (by omega) (And.left (by assumption))
    | exact oS_off (by assumption) (by assumption)
    | exact oS_on (by assumption)
    | (have hq := opre_len3 (show (orderedG x)[Int.toNat _]? = some _ by assumption) (by assumption) (by omega); (try simp only [i64max, room, List.length_append, List.length_cons, List.length_nil]); omega)
    | (have hq := oS_plen3 (show (gkA x _)[Int.toNat _]? = some _ by assumption) (by assumption) (by omega) (by omega); (try simp only [i64max, room, List.length_append, List.length_cons, List.length_nil]); omega)
    | (have ho := (@orderedG_len x).1.1; (try simp only [i64max]); omega)
    | (have hb := (@opre_bd x (by assumption) (by assumption)).a; (try simp only [i64max, room, List.length_append, List.length_cons, List.length_nil]); omega)
    | skip)

end Go.My
end
