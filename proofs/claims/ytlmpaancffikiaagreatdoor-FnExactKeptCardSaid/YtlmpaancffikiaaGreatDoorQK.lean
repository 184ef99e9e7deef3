/- A part of the proof: the engine and the contracts, joined. -/
import Derived.Test.YtlmpaancffikiaaGreatDoorQJ
section
set_option linter.unusedVariables false
set_option linter.unusedSimpArgs false
namespace Go.My
open Go.Eng Go.Proofs
variable {G : GInv}
def okQ (s : ST) (x : Gs) : Prop := okD s x ∧ sgM s.sg
theorem okQ_D {s : ST} {x : Gs} (h : okQ s x) : okD s x := h.1
theorem okQ_M {s : ST} {x : Gs} (h : okQ s x) : sgM s.sg := h.2
theorem wd_n {sg : List Sg} {x : Gs} {m : List UInt8} (h : isG sg x 1 m = false) : gWord sg x m = x := by simp [gWord, h]
theorem wd_y {sg : List Sg} {x : Gs} {m : List UInt8} (h : isG sg x 1 m = true) : gWord sg x m = gAdv x := by simp [gWord, h]
theorem wd_ok {s : ST} {x : Gs} {m : List UInt8} (h : okQ s x) (hq : isG s.sg x 1 m = true) : okQ s (gAdv x) := ⟨pss_okD h.1 hq, h.2⟩
theorem vq_t {s : ST} {x : Gs} (h : okQ s x) : rOk s (gText s.sg x 1) ∧ rOk s (gSkip s.sg (gText s.sg x 1) [61]) := by
  have a := tx_ok (k := 1) h.1.1 (by omega); exact ⟨a, sk_ok a⟩
theorem vq_s {s : ST} {x : Gs} (h : okQ s x) (hq : isG s.sg (gText s.sg x 1) 4 [61] = true) : okQ s (gSkip s.sg (gText s.sg x 1) [61]) := by
  rw [name_tx.1] at hq ⊢
  exact ⟨vr_sk h.1.1 h.1.2 hq, h.2⟩
theorem vq_y {s : ST} {x : Gs} {z : Int × Gs} (h : okQ s x) (hq : isG s.sg (gText s.sg x 1) 4 [61] = true) (hz : nodP s.sg (gSkip s.sg (gText s.sg x 1) [61]) (valR s.sg) z) :
    nodP s.sg x (varR s.sg false) (gAddK (gTake s.sg z.2 [59]), gAdd (gTake s.sg z.2 [59]) ⟨12, gTextT s.sg x 1, [z.1], false⟩) := by
  rw [name_tx.1] at hq hz; rw [name_tx.2]
  exact nod_cl (nod_ok hz) (nodB1 (nameT_len h.1.1.1) (by simp)) (vr_y h.1.1 hq hz)
theorem vq_n {s : ST} {x : Gs} (h : okQ s x) (hq : isG s.sg (gText s.sg x 1) 4 [61] = false) :
    nodP s.sg x (varR s.sg false) (gAddK (gTake s.sg (gSkip s.sg (gText s.sg x 1) [61]) [59]), gAdd (gTake s.sg (gSkip s.sg (gText s.sg x 1) [61]) [59]) ⟨12, gTextT s.sg x 1, [], false⟩) := by
  rw [name_tx.1] at hq ⊢; rw [name_tx.2]
  exact nod_cl (vr_nk h.1.1 hq).2 (nodB1 (nameT_len h.1.1.1) (by simp)) (vr_n h.1.1 hq)
def mbS (sg : List Sg) (n : Nat) (x y : Gs) (ks : List Int) (N : Nat) : Prop :=
  manI sg (stR sg n) [125] (pkX (gTake sg x [123])) y ks N ∧ y.deep = x.deep + 1 ∧ (y.bad = false → x.deep ≠ 20)
theorem ms_0 {s : ST} {x : Gs} {n : Nat} (h : okQ s x) : mbS s.sg n x (pkX (gTake s.sg x [123])) [] (s.sg.length + 1) := by
  have t := tk_b (m := [123]) h.1.1.2
  obtain ⟨p1, p2, p3⟩ := @pick_pos (gTake s.sg x [123])
  have t1 := t.1; have t2 := t.2.1; have hd := h.1.2
  refine ⟨man_0 ⟨by simp only [pkX] at *; rw [p1]; exact t1.1, by simp only [pkX] at *; rw [p2]; have := t1.2.1; omega, ?_⟩, by simp only [pkX] at *; rw [p2]; omega, fun hb => by have := (p3 hb).2; omega⟩
  have e : (pkX (gTake s.sg x [123])).nodes = (gTake s.sg x [123]).nodes := by unfold pkX; split <;> rfl
  rw [e]; exact t1.2.2
theorem ms_1 {s : ST} {x : Gs} {n : Nat} (h : okQ s x) (h20 : (gTake s.sg x [123]).deep + 1 > 20) : mbS s.sg n x ⟨(gTake s.sg x [123]).pos, (gTake s.sg x [123]).deep + 1, true, (gTake s.sg x [123]).nodes⟩ [] (s.sg.length + 1) := by
  have a := ms_0 (n := n) h
  have t2 := (tk_b (m := [123]) h.1.1.2).2.1; have hd := h.1.2
  have e : pkX (gTake s.sg x [123]) = ⟨(gTake s.sg x [123]).pos, (gTake s.sg x [123]).deep + 1, true, (gTake s.sg x [123]).nodes⟩ := by rw [pkX, if_pos (by omega)]; rfl
  rw [← e]; exact a
theorem ms_2 {s : ST} {x : Gs} {n : Nat} (h : okQ s x) (h20 : ¬ (gTake s.sg x [123]).deep + 1 > 20) : mbS s.sg n x ⟨(gTake s.sg x [123]).pos, (gTake s.sg x [123]).deep + 1, (gTake s.sg x [123]).bad, (gTake s.sg x [123]).nodes⟩ [] (s.sg.length + 1) := by
  have a := ms_0 (n := n) h
  have e : pkX (gTake s.sg x [123]) = ⟨(gTake s.sg x [123]).pos, (gTake s.sg x [123]).deep + 1, (gTake s.sg x [123]).bad, (gTake s.sg x [123]).nodes⟩ := by rw [pkX, if_neg (by omega)]; rfl
  rw [← e]; exact a
theorem ms_td {s : ST} {x : Gs} (h : okQ s x) : 0 ≤ (gTake s.sg x [123]).deep ∧ (gTake s.sg x [123]).deep ≤ 20 := by
  have t := tk_b (m := [123]) h.1.1.2
  have := t.1.2.1; have := t.2.1; have := h.1.2; omega
theorem ms_ok {s : ST} {x y : Gs} {n : Nat} {ks : List Int} {N : Nat} (h : okQ s x) (hj : mbS s.sg n x y ks N) : rOk s y := ⟨h.1.1.1, hj.1.1.1⟩
theorem ms_s {s : ST} {x y : Gs} {n : Nat} {ks : List Int} {N : Nat} (h : okQ s x) (h2 : 20 - x.deep ≤ (n : Int)) (hj : mbS s.sg n x y ks N) (hb : y.bad = false) (hq : isG s.sg y 4 [125] = false) : okQ s (gSkip s.sg y [125]) ∧ (gSkip s.sg y [125]).bad = false ∧ 21 - (gSkip s.sg y [125]).deep ≤ (n : Int) := by
  rw [skip_n hq]
  have := hj.2.1; have := hj.2.2 hb; have := h.1.2
  exact ⟨⟨⟨ms_ok h hj, by omega⟩, h.2⟩, hb, by omega⟩
theorem ms_ks {s : ST} {x y : Gs} {n : Nat} {ks : List Int} {N : Nat} (h : okQ s x) (hj : mbS s.sg n x y ks N) : ks.length ≤ 3001 := by
  have := hj.1.2.2.1; have := hj.1.1.1.1; have := h.1.1.1.1; omega
theorem ms_g {s : ST} {x y : Gs} {n : Nat} {ks : List Int} {N : Nat} {b : Bool} {z : Int × Gs} (hj : mbS s.sg n x y ks N) (hb : y.bad = false) (hq : isG s.sg y 4 [125] = false) (hz : nodP s.sg (gSkip s.sg y [125]) (stR s.sg n false) z) (e : b = (blG s.sg (gSkip s.sg y [125]) && decide (0 < (ks.length : Int)))) :
    mbS s.sg n x (gBl z.2 z.1 b) (ks ++ [z.1]) (N - 1) ∧ N - 1 < N := by
  rw [skip_n hq] at hz e
  rw [blG_pk hb] at e
  have hz2 : nodP s.sg y (stR s.sg n b) (z.1, gBl z.2 z.1 b) := nod_bl BL_st hz
  subst e
  obtain ⟨a, b⟩ := ex_pred (man_go hj.1 hb hq (z := (z.1, gBl z.2 z.1 ((pkG s.sg y 0).blank && decide (0 < (ks.length : Int))))) (by
    have : decide (0 < ks.length) = decide (0 < (ks.length : Int)) := by simp
    rw [this]; exact hz2))
  have := (nod_dp hz2).1
  exact ⟨⟨a, by have := hj.2.1; simp only at *; omega, fun hw => hj.2.2 hb⟩, b⟩
theorem ms_e {s : ST} {x y : Gs} {n : Nat} {ks : List Int} {N : Nat} (h : okQ s x) (hj : mbS s.sg n x y ks N) (hq : isG s.sg y 4 [125] = true) :
    nodP s.sg x (blkR s.sg (stR s.sg n)) (gAddK (gDp (gSkip s.sg y [125]) (-1)), gAdd (gDp (gSkip s.sg y [125]) (-1)) ⟨18, [], ks, false⟩) := by
  rw [skip_yG hq, ← take_y hq]
  exact blk_q (l := (ks, y)) h.1.1.2 h.1.2 (man_end hj.1 hq) (ms_ks h hj)
theorem ms_b {s : ST} {x y : Gs} {n : Nat} {ks : List Int} {N : Nat} (h : okQ s x) (hj : mbS s.sg n x y ks N) (hb : y.bad = true) :
    nodP s.sg x (blkR s.sg (stR s.sg n)) (gAddK (gDp y (-1)), gAdd (gDp y (-1)) ⟨18, [], ks, false⟩) := by
  have a := blk_q (l := (ks, y)) h.1.1.2 h.1.2 (man_bad hj.1 hb) (ms_ks h hj)
  simp only [take_b hb] at a; exact a
theorem ms_dp {s : ST} {x y : Gs} {n : Nat} {ks : List Int} {N : Nat} (h : okQ s x) (hj : mbS s.sg n x y ks N) : (1 ≤ y.deep ∧ y.deep ≤ 21) ∧ rOk s (gDp y (-1)) ∧ rOk s (gDp (gSkip s.sg y [125]) (-1)) ∧ (gSkip s.sg y [125]).deep = y.deep := by
  have h1 := hj.2.1; have h2 := h.1.1.2.2.1; have h3 := h.1.2
  have a := ms_ok h hj
  have b := sk_ok (m := [125]) a
  have e : (gSkip s.sg y [125]).deep = y.deep := by unfold gSkip; split <;> rfl
  refine ⟨by omega, ⟨a.1, a.2.1, by simp only [gDp]; omega, a.2.2.2⟩, ⟨b.1, b.2.1, by simp only [gDp]; omega, b.2.2.2⟩, e⟩
theorem sq_note {s : ST} {x : Gs} {n : Nat} (h : okQ s x) (hk : kdG s.sg x 5 = true) : nodP s.sg x (stR s.sg (n + 1) false) (gAddK (gText s.sg x 5), gAdd (gText s.sg x 5) ⟨19, gTextT s.sg x 5, [], false⟩) := by
  have hn := hk
  rw [kdG_f (by omega)] at hn
  exact leaf_alt h.1.1.1 h.1.1.2 (by omega) hk (st_note h.1.1.1 h.1.1.2 (by simpa using hn))
theorem kd_5 {sg : List Sg} {x : Gs} (h : kdG sg x 5 = false) : (pkG sg x 0).kind ≠ 5 := kd_no h (by omega)
theorem sq_var {s : ST} {x : Gs} {n : Nat} {z : Int × Gs} (h : okQ s x) (hk : kdG s.sg x 5 = false) (hq : isG s.sg x 1 [118, 97, 114] = true) (hz : nodP s.sg (gAdv x) (varR s.sg false) z) : nodP s.sg x (stR s.sg (n + 1) false) z := st_var h.1.1.2 (kd_5 hk) hq hz
theorem sq_r0 {s : ST} {x : Gs} {n : Nat} (h : okQ s x) (hk : kdG s.sg x 5 = false) (h1 : isG s.sg x 1 [118, 97, 114] = false) (hq : isG s.sg x 1 [114, 101, 116, 117, 114, 110] = true) (hs : isG s.sg (gAdv x) 4 [59] = true) :
    nodP s.sg x (stR s.sg (n + 1) false) (gAddK (gTake s.sg (gAdv x) [59]), gAdd (gTake s.sg (gAdv x) [59]) ⟨15, [], [], false⟩) := by
  have o := (wd_ok h hq).1.1.2
  exact st_ret h.1.1.2 (kd_5 hk) h1 hq (nod_cl o (nodB1 (by simp) (by simp)) (ret_no o hs))
theorem sq_r1 {s : ST} {x : Gs} {n : Nat} {z : Int × Gs} (h : okQ s x) (hk : kdG s.sg x 5 = false) (h1 : isG s.sg x 1 [118, 97, 114] = false) (hq : isG s.sg x 1 [114, 101, 116, 117, 114, 110] = true) (hs : isG s.sg (gAdv x) 4 [59] = false) (hz : nodP s.sg (gAdv x) (valR s.sg) z) :
    nodP s.sg x (stR s.sg (n + 1) false) (gAddK (gTake s.sg z.2 [59]), gAdd (gTake s.sg z.2 [59]) ⟨15, [], [z.1], false⟩) := by
  have o := (wd_ok h hq).1.1.2
  exact st_ret h.1.1.2 (kd_5 hk) h1 hq (nod_cl (nod_ok hz) (nodB1 (by simp) (by simp)) (ret_yes o hs hz))
theorem sq_if0 {s : ST} {x : Gs} {n : Nat} {c q : Int × Gs} (h : okQ s x) (hk : kdG s.sg x 5 = false) (h1 : isG s.sg x 1 [118, 97, 114] = false) (h2 : isG s.sg x 1 [114, 101, 116, 117, 114, 110] = false) (hq : isG s.sg x 1 [105, 102] = true)
    (hc : resP s.sg (gAdv x) (condR s.sg) c) (hb : nodP s.sg c.2 (blkR s.sg (stR s.sg n)) q) (he : isG s.sg q.2 1 [101, 108, 115, 101] = false) :
    nodP s.sg x (stR s.sg (n + 1) false) (gAddK (gWord s.sg q.2 [101, 108, 115, 101]), gAdd (gWord s.sg q.2 [101, 108, 115, 101]) ⟨16, [], [c.1, q.1], false⟩) := by
  rw [wd_n he]
  exact st_if h.1.1.2 (kd_5 hk) h1 h2 hq (if_no (wd_ok h hq).1.1.2 hc hb he)
theorem sq_if1 {s : ST} {x : Gs} {n : Nat} {c q r : Int × Gs} (h : okQ s x) (hk : kdG s.sg x 5 = false) (h1 : isG s.sg x 1 [118, 97, 114] = false) (h2 : isG s.sg x 1 [114, 101, 116, 117, 114, 110] = false) (hq : isG s.sg x 1 [105, 102] = true)
    (hc : resP s.sg (gAdv x) (condR s.sg) c) (hb : nodP s.sg c.2 (blkR s.sg (stR s.sg n)) q) (he : isG s.sg q.2 1 [101, 108, 115, 101] = true) (hr : nodP s.sg (gWord s.sg q.2 [101, 108, 115, 101]) (blkR s.sg (stR s.sg n)) r) :
    nodP s.sg x (stR s.sg (n + 1) false) (gAddK r.2, gAdd r.2 ⟨16, [], [c.1, q.1, r.1], false⟩) := by
  rw [wd_y he] at hr
  exact st_if h.1.1.2 (kd_5 hk) h1 h2 hq (if_yes (wd_ok h hq).1.1.2 hc hb he hr)
theorem sq_wh {s : ST} {x : Gs} {n : Nat} {c q : Int × Gs} (h : okQ s x) (hk : kdG s.sg x 5 = false) (h1 : isG s.sg x 1 [118, 97, 114] = false) (h2 : isG s.sg x 1 [114, 101, 116, 117, 114, 110] = false) (h3 : isG s.sg x 1 [105, 102] = false) (hq : isG s.sg x 1 [119, 104, 105, 108, 101] = true)
    (hc : resP s.sg (gAdv x) (condR s.sg) c) (hb : nodP s.sg c.2 (blkR s.sg (stR s.sg n)) q) : nodP s.sg x (stR s.sg (n + 1) false) (gAddK q.2, gAdd q.2 ⟨17, [], [c.1, q.1], false⟩) := wh_y h.1 (kd_5 hk) h1 h2 h3 hq hc hb
theorem kd_h {sg : List Sg} {i k : Int} {e : Sg} (hk : e.kind = k) (he : sg[i.toNat]? = some e) : (sgO sg i).kind = k := by rw [sgO_at he]; exact hk
theorem kd_hn {sg : List Sg} {i k : Int} {e : Sg} (hk : e.kind ≠ k) (he : sg[i.toNat]? = some e) : (sgO sg i).kind ≠ k := by rw [sgO_at he]; exact hk
theorem tx_h {sg : List Sg} {i : Int} {e : Sg} {m : List UInt8} (hk : e.text = m) (he : sg[i.toNat]? = some e) : ((sgO sg i).text == m) = true := by rw [sgO_at he]; simpa using hk
theorem tx_hn {sg : List Sg} {i : Int} {e : Sg} {m : List UInt8} (hk : e.text ≠ m) (he : sg[i.toNat]? = some e) : ((sgO sg i).text == m) = false := by rw [sgO_at he]; simpa using hk
theorem se_1 {sg : List Sg} {x : Gs} (hk : kdG sg x 1 = false) : seG sg x = false := by rw [kdG_1] at hk; simp [seG, hk]
theorem pk_1 {sg : List Sg} {x : Gs} {e : Sg} (hb : x.bad = false) (hl : x.pos + 1 < sg.length) (he : sgO sg (x.pos + 1) = e) : pkG sg x 1 = e := by
  rw [pkG, if_neg (by simp [hb]; omega), he]
theorem se_2 {sg : List Sg} {x : Gs} (hl : ¬ x.pos + 1 < sg.length) : seG sg x = false := by
  have : pkG sg x 1 = sg00 := by rw [pkG, if_pos (.inr (by omega))]
  simp [seG, this, sg00]
theorem se_3 {sg : List Sg} {x : Gs} (hb : x.bad = false) (hl : x.pos + 1 < sg.length) (hk : (sgO sg (x.pos + 1)).kind ≠ 4 ∨ ((sgO sg (x.pos + 1)).text == [61]) = false) : seG sg x = false := by
  rw [seG, pk_1 hb hl rfl]
  rcases hk with hk | hk <;> simp [hk]
theorem se_4 {sg : List Sg} {x : Gs} (hb : x.bad = false) (hl : x.pos + 1 < sg.length) (h1 : kdG sg x 1 = true) (hk : (sgO sg (x.pos + 1)).kind = 4) (ht : ((sgO sg (x.pos + 1)).text == [61]) = true) : seG sg x = true := by
  rw [kdG_1] at h1
  rw [seG, pk_1 hb hl rfl]; simp [h1, hk, ht]
theorem sq_set {s : ST} {x : Gs} {n : Nat} {z : Int × Gs} (h : okQ s x) (hk : kdG s.sg x 5 = false) (h1 : isG s.sg x 1 [118, 97, 114] = false) (h2 : isG s.sg x 1 [114, 101, 116, 117, 114, 110] = false) (h3 : isG s.sg x 1 [105, 102] = false) (h4 : isG s.sg x 1 [119, 104, 105, 108, 101] = false)
    (he : seG s.sg x = true) (hz : nodP s.sg (gTake s.sg (gText s.sg x 1) [61]) (valR s.sg) z) : nodP s.sg x (stR s.sg (n + 1) false) (gAddK (gTake s.sg z.2 [59]), gAdd (gTake s.sg z.2 [59]) ⟨13, gTextT s.sg x 1, [z.1], false⟩) := by
  rw [name_tx.1] at hz; rw [name_tx.2]
  exact st_set h.1.1.2 (kd_5 hk) h1 h2 h3 h4 he (nod_cl (nod_ok hz) (nodB1 (nameT_len h.1.1.1) (by simp)) (set_all h.1.1.1 h.1.1.2 hz))
theorem sq_do {s : ST} {x : Gs} {n : Nat} {z : Int × Gs} (h : okQ s x) (hk : kdG s.sg x 5 = false) (h1 : isG s.sg x 1 [118, 97, 114] = false) (h2 : isG s.sg x 1 [114, 101, 116, 117, 114, 110] = false) (h3 : isG s.sg x 1 [105, 102] = false) (h4 : isG s.sg x 1 [119, 104, 105, 108, 101] = false)
    (he : seG s.sg x = false) (hz : nodP s.sg x (valR s.sg) z) : nodP s.sg x (stR s.sg (n + 1) false) (gAddK (gTake s.sg z.2 [59]), gAdd (gTake s.sg z.2 [59]) ⟨14, [], [z.1], false⟩) :=
  st_do h.1.1.2 (kd_5 hk) h1 h2 h3 h4 he (nod_cl (nod_ok hz) (nodB1 (by simp) (by simp)) (do_all h.1.1.2 hz))
theorem sq_td {s : ST} {x : Gs} (h : okQ s x) : rOk s (gTake s.sg (gText s.sg x 1) [61]) ∧ okQ s (gTake s.sg (gText s.sg x 1) [61]) := by
  have a := tk_ok (m := [61]) (tx_ok (k := 1) h.1.1 (by omega))
  have e : (gText s.sg x 1).deep = x.deep := by unfold gText; split <;> rfl
  exact ⟨a.1, ⟨a.1, by have := h.1.2; omega⟩, h.2⟩
theorem okQ_res {α : Type} {s : ST} {x : Gs} {f : Ps → Option (α × Ps)} {y : α × Gs} (h : okQ s x) (hy : resP s.sg x f y) : okQ s y.2 := ⟨res_okD h.1 hy, h.2⟩
theorem okQ_nod {α : Type} {s : ST} {x : Gs} {f : Ps → Option (α × Ps)} {y : α × Gs} (h : okQ s x) (hy : nodP s.sg x f y) : okQ s y.2 := ⟨res_okD h.1 hy.1, h.2⟩
theorem okQ_dp {α : Type} {s : ST} {x : Gs} {n : Nat} {f : Ps → Option (α × Ps)} {y : α × Gs} (h : 21 - x.deep ≤ ((n + 1 : Nat) : Int)) (hy : resP s.sg (gAdv x) f y) : 20 - y.2.deep ≤ (n : Int) := by
  have := hy.2.1; simp only [gAdv] at this; omega
theorem wd_dp {sg : List Sg} {x : Gs} {m : List UInt8} : (gWord sg x m).deep = x.deep := by unfold gWord; split <;> rfl
theorem wd_rk {s : ST} {x : Gs} {m : List UInt8} (h : rOk s x) : rOk s (gWord s.sg x m) := by
  unfold gWord; split
  · rename_i hq; exact ⟨h.1, adv_ok h.2 (isG_lt hq (by omega)).2⟩
  · exact h
theorem wd_oq {s : ST} {x : Gs} {m : List UInt8} (h : okQ s x) : okQ s (gWord s.sg x m) := ⟨⟨wd_rk h.1.1, by rw [wd_dp]; exact h.1.2⟩, h.2⟩
theorem okQ_wdp {α : Type} {s : ST} {x : Gs} {n : Nat} {m : List UInt8} {f : Ps → Option (α × Ps)} {y : α × Gs} (h : 20 - x.deep ≤ (n : Int)) (hy : nodP s.sg x f y) : 20 - (gWord s.sg y.2 m).deep ≤ (n : Int) := by
  rw [wd_dp]; exact nod_d2 h hy
def s_qSt (n : Nat) : Sig := { X := ST × Int × Int × Bool × List Nd, args := fun x => [srd x.1 (xg x)], pre := fun x => (okQ x.1 (xg x) ∧ (xg x).bad = false) ∧ 21 - (xg x).deep ≤ n, Y := Int × Int × Int × Bool × List Nd, post := fun x y => nodP x.1.sg (xg x) (stR x.1.sg n false) (yS y), res := fun x y => .int .i64 y.1, outs := fun x y => [srd x.1 (yG y.2)], keep := true }
attribute [local irreducible] pE listR callR fnR nodP resP gsOk gTake gClose gAdd gPass gLeaf gSkip gNameN gNameK gAddK gCloseK pkG isG nmG kdG gText gTextT nameR vlQ gWord gBl blG varR retR condR valR blkR stR manyR mbS seG okQ sgM
def srf (s : ST) (g : Gs) : AV := .pf [sgs s.sg, .int .i64 g.pos, .bool g.bad, .int .i64 g.deep, nds g.nodes]
theorem pf_q {l : List Sg} {p d : Int} {b : Bool} {ns : List Nd} : AV.pf (fzL [AV.sl false 0 4 Sg sgA l, .int .i64 p, .bool b, .int .i64 d, AV.sl true 0 4 Nd (ndA true) ns]) = AV.pf [AV.sl false 0 4 Sg sgA l, .int .i64 p, .bool b, .int .i64 d, AV.sl false 0 4 Nd (ndA false) ns] := rfl
def s_qKindF  : Sig := { X := ST × Int × Int × Bool × List Nd × Int, args := fun x => [srf x.1 (xh x), .int .i64 x.2.2.2.2.2], pre := fun x => rOk x.1 (xh x) ∧ x.2.2.2.2.2 ≠ 0, Y := Unit, post := fun x y => True, res := fun x y => .bool (kdG x.1.sg (xh x) x.2.2.2.2.2), outs := fun x y => [.top, .top], keep := false }
theorem qKindF_ok  : Contract G Tryz.prog 68 s_qKindF :=
  vcFun_okP [(105, 0, s_sKw)] [] false (fun x => []) Tryz.func68 rfl (by decide) ⟨sKw_ok, trivial⟩ (fun (x : ST × Int × Int × Bool × List Nd × Int) => (∀ (y : Unit), True → True ∧ True ∧ True ∧ True) ∧ true = true ∧ true = true ∧ bcase (!(xh x).bad) (bcase (decide ((xh x).pos < (↑(List.length x.1.sg) : Int))) (((0 : Int) ≤ (xh x).pos ∧ (xh x).pos < (↑(List.length x.1.sg) : Int)) ∧ ∀ (e : Sg), x.1.sg[Int.toNat (xh x).pos]? = some e → bcase (e.kind == x.2.2.2.2.2) (bcase (x.2.2.2.2.2 != (1 : Int)) (rA s_qKindF x [.bool true, .top, .top]) (((0 : Int) ≤ (xh x).pos ∧ (xh x).pos < (↑(List.length x.1.sg) : Int)) ∧ ∀ (e : Sg), x.1.sg[Int.toNat (xh x).pos]? = some e → ∃ (x_1 : List UInt8), True ∧ e.text = x_1 ∧ ∃ (y0 : Unit), (∀ (y : Unit), True → AV.bool (kw x_1) = AV.bool (kw x_1)) ∧ true = true ∧ rA s_qKindF x [.bool !kw x_1, .top, .top])) (rA s_qKindF x [.bool false, .top, .top])) (rA s_qKindF x [.bool false, .top, .top])) (rA s_qKindF x [.bool false, .top, .top])) (fun x => by kernel_rfl) fun (x : ST × Int × Int × Bool × List Nd × Int) (hx : rOk x.1 (xh x) ∧ x.2.2.2.2.2 ≠ 0) => (by
  dsimp only [ndA_e, nds, rA, s_qKindF, sgA_e, sgs, srf, hndL, hnd1]
  obtain ⟨s, p, d, b, ns, k⟩ := x; dsimp only [xg, xh] at hx ⊢
  obtain ⟨h1, h2⟩ := hx; have hs := rOk_n h1; dsimp only at hs
  (repeat' first | (with_reducible first | rfl | exact True.intro | apply inR_i64 | apply And.intro | ((first | apply bcase_dec | apply bcase_bne | apply bcase_beq | apply bcase_not) <;> intro _)) | (apply bcase_intro <;> intro _) | apply sl_eq | refine ex_flip () ?_ ?_ | ((first | apply ex_flip10 | apply ex_flip9 | apply ex_flip8 | apply ex_flip7 | apply ex_flip6 | apply ex_flip5 | apply ex_flip4 | apply ex_flip3 | apply ex_flip2) <;> try dsimp only) | apply ex_flip | (refine Prod.forall.2 ?_; intro _; try dsimp only) | (intro _; try dsimp only))
  all_goals (try (repeat (rename s.sg[_]? = some _ => hq; revert hq; rename s.sg[_]? = some _ => hr; intro hq; rw [hr] at hq; cases hq)))
  all_goals first
    | rfl
    | exact (kdG_out h2 (.inl (by assumption))).symm
    | exact (kdG_out h2 (.inr (by simp only; omega))).symm
    | (rw [kdG_in (by assumption) (by assumption) (by simp only; omega)]; simp [*]; done)
    | ((try simp only [i64max]); omega)
    | skip)
def s_qVar  : Sig := { X := ST × Int × Int × Bool × List Nd, args := fun x => [srd x.1 (xg x)], pre := fun x => okQ x.1 (xg x), Y := Int × Int × Int × Bool × List Nd, post := fun x y => nodP x.1.sg (xg x) (varR x.1.sg false) (yS y), res := fun x y => .int .i64 y.1, outs := fun x y => [srd x.1 (yG y.2)], keep := true }
theorem qVar_ok  : Contract G Tryz.prog 71 s_qVar :=
  vcFun_okP [(69, 0, s_qText), (73, 0, s_qMark), (107, 0, s_qV), (72, 0, s_qWants), (43, 0, s_qPut)] [(45, ⟨Int,intA⟩)] false (fun x => []) Tryz.func71 rfl (by decide) ⟨qText_ok, qMark_ok, qV_ok, qWants_ok, qPut_ok, trivial⟩ (fun (x : ST × Int × Int × Bool × List Nd) => True ∧ cA s_qText [srd x.1 (xg x), .int .i64 (1 : Int)] fun x_1 y => cA s_qMark [srd x_1.1 (gText x_1.1.sg (xh x_1) x_1.2.2.2.2.2), .str #[(61 : UInt8)].toList] fun x_2 y => bcase (isG x_2.1.sg (xh x_2) (4 : Int) x_2.2.2.2.2.2) (cA s_qV [srd x_2.1 (gSkip x_2.1.sg (xh x_2) x_2.2.2.2.2.2)] fun x_3 y => ∃ (x_4 : Int), y.1 = x_4 ∧ ∃ (zs : List Int), oints [x_4] = oints zs ∧ leafy intA ∧ room ((0 : Nat) + List.length zs) (8 : Nat) ∧ cA s_qWants [srd x_3.1 (yG y.2), .str #[(59 : UInt8)].toList] fun x_5 y => cA s_qPut [srd x_5.1 (gTake x_5.1.sg (xh x_5) x_5.2.2.2.2.2), .int .i64 (12 : Int), .str (gTextT x_1.1.sg (xh x_1) x_1.2.2.2.2.2), oints ([] ++ zs)] fun x_6 y => rA s_qVar x [.int .i64 (gAddK (xh x_6)), srd x_6.1 (gAdd (xh x_6) { kind := x_6.2.2.2.2.2.1, text := x_6.2.2.2.2.2.2.1, kids := x_6.2.2.2.2.2.2.2, blank := false })]) (cA s_qWants [srd x_2.1 (gSkip x_2.1.sg (xh x_2) x_2.2.2.2.2.2), .str #[(59 : UInt8)].toList] fun x_3 y => cA s_qPut [srd x_3.1 (gTake x_3.1.sg (xh x_3) x_3.2.2.2.2.2), .int .i64 (12 : Int), .str (gTextT x_1.1.sg (xh x_1) x_1.2.2.2.2.2), oints []] fun x_4 y => rA s_qVar x [.int .i64 (gAddK (xh x_4)), srd x_4.1 (gAdd (xh x_4) { kind := x_4.2.2.2.2.2.1, text := x_4.2.2.2.2.2.2.1, kids := x_4.2.2.2.2.2.2.2, blank := false })])) (fun x => by kernel_rfl) fun (x : ST × Int × Int × Bool × List Nd) (hx : okQ x.1 (xg x)) => (by
  dsimp only [cA, ndA_e, oints, onds, rA, s_qMark, s_qPut, s_qText, s_qV, s_qVar, s_qWants, sgA_e, sgs, srd, hndL, hnd1, mvL, lnL, mvE, lnE]
  obtain ⟨s, p, d, b, ns⟩ := x; dsimp only [xg, xh] at hx ⊢
  have hx : okQ s ⟨p, d, b, ns⟩ := hx
  have hD := okQ_D hx; have hM := okQ_M hx; have h1 := hD.1
  (repeat' first | (with_reducible first | rfl | exact True.intro | apply inR_i64 | apply And.intro | ((first | apply bcase_dec | apply bcase_bne | apply bcase_beq | apply bcase_not) <;> intro _)) | (apply bcase_intro <;> intro _) | apply sl_eq | refine ex_flip () ?_ ?_ | ((first | apply ex_flip10 | apply ex_flip9 | apply ex_flip8 | apply ex_flip7 | apply ex_flip6 | apply ex_flip5 | apply ex_flip4 | apply ex_flip3 | apply ex_flip2) <;> try dsimp only) | apply ex_flip | (refine Prod.forall.2 ?_; intro _; try dsimp only) | (intro _; try dsimp only))
  all_goals (try dsimp only [xg, xh, yG, yS, iG, iF] at *)
  all_goals (try simp only [gs_eta] at *)
  all_goals first
    | rfl
    | exact h1
    | omega
    | exact (vq_t hx).1
    | exact (vq_t hx).2
    | exact okQ_D (vq_s hx (by assumption))
    | exact hM
    | exact fn_4 h1 (by assumption)
    | exact (tk_ok (fn_4 h1 (by assumption))).1
    | exact (tk_ok (vq_t hx).2).1
    | exact vq_y hx (by assumption) (by assumption)
    | exact vq_n hx (by assumption)
    | (simp [room]; done)
    | skip)
def s_qHeld  : Sig := { X := ST × Int × Int × Bool × List Nd, args := fun x => [srd x.1 (xg x)], pre := fun x => okQ x.1 (xg x), Y := Int × Int × Int × Bool × List Nd, post := fun x y => resP x.1.sg (xg x) (condR x.1.sg) (yS y), res := fun x y => .int .i64 y.1, outs := fun x y => [srd x.1 (yG y.2)], keep := true }
theorem qHeld_ok  : Contract G Tryz.prog 144 s_qHeld :=
  vcFun_okP [(107, 0, s_qV), (72, 0, s_qWants)] [] false (fun x => []) Tryz.func144 rfl (by decide) ⟨qV_ok, qWants_ok, trivial⟩ (fun (x : ST × Int × Int × Bool × List Nd) => True ∧ cA s_qWants [srd x.1 (xg x), .str #[(40 : UInt8)].toList] fun x_1 y => cA s_qV [srd x_1.1 (gTake x_1.1.sg (xh x_1) x_1.2.2.2.2.2)] fun x_2 y => cA s_qWants [srd x_2.1 (yG y.2), .str #[(41 : UInt8)].toList] fun x_3 y_1 => rA s_qHeld x [.int .i64 y.1, srd x_3.1 (gTake x_3.1.sg (xh x_3) x_3.2.2.2.2.2)]) (fun x => by kernel_rfl) fun (x : ST × Int × Int × Bool × List Nd) (hx : okQ x.1 (xg x)) => (by
  dsimp only [cA, ndA_e, onds, rA, s_qHeld, s_qV, s_qWants, sgA_e, sgs, srd, hndL, hnd1, mvL, lnL, mvE, lnE]
  obtain ⟨s, p, d, b, ns⟩ := x; dsimp only [xg, xh] at hx ⊢
  have hx : okQ s ⟨p, d, b, ns⟩ := hx
  have hD := okQ_D hx; have hM := okQ_M hx; have h1 := hD.1
  have t := tk_ok (m := [40]) h1; have hd := hD.2; dsimp only at hd
  (repeat' first | (with_reducible first | rfl | exact True.intro | apply inR_i64 | apply And.intro | ((first | apply bcase_dec | apply bcase_bne | apply bcase_beq | apply bcase_not) <;> intro _)) | (apply bcase_intro <;> intro _) | apply sl_eq | refine ex_flip () ?_ ?_ | ((first | apply ex_flip10 | apply ex_flip9 | apply ex_flip8 | apply ex_flip7 | apply ex_flip6 | apply ex_flip5 | apply ex_flip4 | apply ex_flip3 | apply ex_flip2) <;> try dsimp only) | apply ex_flip | (refine Prod.forall.2 ?_; intro _; try dsimp only) | (intro _; try dsimp only))
  all_goals (try dsimp only [xg, xh, yG, yS, iG, iF] at *)
  all_goals (try simp only [gs_eta] at *)
  all_goals first
    | rfl
    | exact h1
    | exact t.1
    | exact hM
    | exact ⟨t.1, by rw [t.2]; exact hd⟩
    | exact fn_4 h1 (by assumption)
    | exact cond_all h1.2 (by assumption)
    | skip)
def s_qBlk (n : Nat) : Sig := { X := ST × Int × Int × Bool × List Nd, args := fun x => [srd x.1 (xg x)], pre := fun x => okQ x.1 (xg x) ∧ 20 - (xg x).deep ≤ (n : Int), Y := Int × Int × Int × Bool × List Nd, post := fun x y => nodP x.1.sg (xg x) (blkR x.1.sg (stR x.1.sg n)) (yS y), res := fun x y => .int .i64 y.1, outs := fun x y => [srd x.1 (yG y.2)], keep := true }
def i_qBlk (n : Nat) (x : ST × Int × Int × Bool × List Nd) : LS := { ι := Int × Int × Bool × List Nd × List Int × Nat, inv := fun i => mbS x.1.sg n (xg x) (iG i) i.2.2.2.2.1 i.2.2.2.2.2, regs := fun i => [(0, srd x.1 (iG i)), (3, oints i.2.2.2.2.1)], als := [], meas := fun i => i.2.2.2.2.2 }
theorem qBlk_ok (n : Nat) (h : Contract G Go.Proofs.Tryz.prog 108 (s_qSt n)) : Contract G Tryz.prog 75 (s_qBlk n) :=
  vcFun_okP [(72, 0, s_qWants), (73, 0, s_qMark), (40, 0, s_qBlank), (108, 0, (s_qSt n)), (42, 0, s_qBlanked), (43, 0, s_qPut)] [(45, ⟨Int,intA⟩)] false (fun x => [(6, i_qBlk n x)]) Tryz.func75 rfl (by decide) ⟨qWants_ok, qMark_ok, qBlank_ok, h, qBlanked_ok, qPut_ok, trivial⟩ (fun (x : ST × Int × Int × Bool × List Nd) => True ∧ cA s_qWants [srd x.1 (xg x), .str #[(123 : UInt8)].toList] fun x_1 y => inR IntKind.i64 ((gTake x_1.1.sg (xh x_1) x_1.2.2.2.2.2).deep + (1 : Int)) ∧ bcase (decide ((gTake x_1.1.sg (xh x_1) x_1.2.2.2.2.2).deep + (1 : Int) > (20 : Int))) (eA (i_qBlk n x) [.box 0 [sgs x_1.1.sg, .int .i64 (gTake x_1.1.sg (xh x_1) x_1.2.2.2.2.2).pos, .bool true, .int .i64 ((gTake x_1.1.sg (xh x_1) x_1.2.2.2.2.2).deep + (1 : Int)), onds (gTake x_1.1.sg (xh x_1) x_1.2.2.2.2.2).nodes], oints []] ∧ ∀ (i : Int × Int × Bool × List Nd × List Int × Nat), mbS x.1.sg n (xg x) (iG i) i.2.2.2.2.1 i.2.2.2.2.2 → bcase (!(iG i).bad) (cA s_qMark [srd x.1 (iG i), .str #[(125 : UInt8)].toList] fun x_2 y => bcase (!isG x_2.1.sg (xh x_2) (4 : Int) x_2.2.2.2.2.2) (cA s_qBlank [srd x_2.1 (gSkip x_2.1.sg (xh x_2) x_2.2.2.2.2.2)] fun x_3 y => bcase (blG x_3.1.sg (xg x_3)) (cA (s_qSt n) [srd x_3.1 (xg x_3)] fun x_4 y => cA s_qBlanked [srd x_4.1 (yG y.2), .int .i64 y.1, .bool (decide ((↑(List.length i.2.2.2.2.1) : Int) > (0 : Int)))] fun x_5 y_1 => ∃ (x_6 : Int), y.1 = x_6 ∧ ∃ (zs : List Int), oints [x_6] = oints zs ∧ leafy intA ∧ room (List.length i.2.2.2.2.1 + List.length zs) (8 : Nat) ∧ eN (i_qBlk n x) i [srd x_5.1 (gBl (xh x_5) x_5.2.2.2.2.2.1 x_5.2.2.2.2.2.2), oints (i.2.2.2.2.1 ++ zs)]) (cA (s_qSt n) [srd x_3.1 (xg x_3)] fun x_4 y => cA s_qBlanked [srd x_4.1 (yG y.2), .int .i64 y.1, .bool false] fun x_5 y_1 => ∃ (x_6 : Int), y.1 = x_6 ∧ ∃ (zs : List Int), oints [x_6] = oints zs ∧ leafy intA ∧ room (List.length i.2.2.2.2.1 + List.length zs) (8 : Nat) ∧ eN (i_qBlk n x) i [srd x_5.1 (gBl (xh x_5) x_5.2.2.2.2.2.1 x_5.2.2.2.2.2.2), oints (i.2.2.2.2.1 ++ zs)])) (inR IntKind.i64 ((gSkip x_2.1.sg (xh x_2) x_2.2.2.2.2.2).deep - (1 : Int)) ∧ cA s_qPut [.box 0 [sgs x_2.1.sg, .int .i64 (gSkip x_2.1.sg (xh x_2) x_2.2.2.2.2.2).pos, .bool (gSkip x_2.1.sg (xh x_2) x_2.2.2.2.2.2).bad, .int .i64 ((gSkip x_2.1.sg (xh x_2) x_2.2.2.2.2.2).deep - (1 : Int)), onds (gSkip x_2.1.sg (xh x_2) x_2.2.2.2.2.2).nodes], .int .i64 (18 : Int), .str #[].toList, oints i.2.2.2.2.1] fun x_3 y => rA (s_qBlk n) x [.int .i64 (gAddK (xh x_3)), srd x_3.1 (gAdd (xh x_3) { kind := x_3.2.2.2.2.2.1, text := x_3.2.2.2.2.2.2.1, kids := x_3.2.2.2.2.2.2.2, blank := false })])) (inR IntKind.i64 ((iG i).deep - (1 : Int)) ∧ cA s_qPut [.box 0 [sgs x.1.sg, .int .i64 (iG i).pos, .bool (iG i).bad, .int .i64 ((iG i).deep - (1 : Int)), onds (iG i).nodes], .int .i64 (18 : Int), .str #[].toList, oints i.2.2.2.2.1] fun x_2 y => rA (s_qBlk n) x [.int .i64 (gAddK (xh x_2)), srd x_2.1 (gAdd (xh x_2) { kind := x_2.2.2.2.2.2.1, text := x_2.2.2.2.2.2.2.1, kids := x_2.2.2.2.2.2.2.2, blank := false })])) (eA (i_qBlk n x) [.box 0 [sgs x_1.1.sg, .int .i64 (gTake x_1.1.sg (xh x_1) x_1.2.2.2.2.2).pos, .bool (gTake x_1.1.sg (xh x_1) x_1.2.2.2.2.2).bad, .int .i64 ((gTake x_1.1.sg (xh x_1) x_1.2.2.2.2.2).deep + (1 : Int)), onds (gTake x_1.1.sg (xh x_1) x_1.2.2.2.2.2).nodes], oints []] ∧ ∀ (i : Int × Int × Bool × List Nd × List Int × Nat), mbS x.1.sg n (xg x) (iG i) i.2.2.2.2.1 i.2.2.2.2.2 → bcase (!(iG i).bad) (cA s_qMark [srd x.1 (iG i), .str #[(125 : UInt8)].toList] fun x_2 y => bcase (!isG x_2.1.sg (xh x_2) (4 : Int) x_2.2.2.2.2.2) (cA s_qBlank [srd x_2.1 (gSkip x_2.1.sg (xh x_2) x_2.2.2.2.2.2)] fun x_3 y => bcase (blG x_3.1.sg (xg x_3)) (cA (s_qSt n) [srd x_3.1 (xg x_3)] fun x_4 y => cA s_qBlanked [srd x_4.1 (yG y.2), .int .i64 y.1, .bool (decide ((↑(List.length i.2.2.2.2.1) : Int) > (0 : Int)))] fun x_5 y_1 => ∃ (x_6 : Int), y.1 = x_6 ∧ ∃ (zs : List Int), oints [x_6] = oints zs ∧ leafy intA ∧ room (List.length i.2.2.2.2.1 + List.length zs) (8 : Nat) ∧ eN (i_qBlk n x) i [srd x_5.1 (gBl (xh x_5) x_5.2.2.2.2.2.1 x_5.2.2.2.2.2.2), oints (i.2.2.2.2.1 ++ zs)]) (cA (s_qSt n) [srd x_3.1 (xg x_3)] fun x_4 y => cA s_qBlanked [srd x_4.1 (yG y.2), .int .i64 y.1, .bool false] fun x_5 y_1 => ∃ (x_6 : Int), y.1 = x_6 ∧ ∃ (zs : List Int), oints [x_6] = oints zs ∧ leafy intA ∧ room (List.length i.2.2.2.2.1 + List.length zs) (8 : Nat) ∧ eN (i_qBlk n x) i [srd x_5.1 (gBl (xh x_5) x_5.2.2.2.2.2.1 x_5.2.2.2.2.2.2), oints (i.2.2.2.2.1 ++ zs)])) (inR IntKind.i64 ((gSkip x_2.1.sg (xh x_2) x_2.2.2.2.2.2).deep - (1 : Int)) ∧ cA s_qPut [.box 0 [sgs x_2.1.sg, .int .i64 (gSkip x_2.1.sg (xh x_2) x_2.2.2.2.2.2).pos, .bool (gSkip x_2.1.sg (xh x_2) x_2.2.2.2.2.2).bad, .int .i64 ((gSkip x_2.1.sg (xh x_2) x_2.2.2.2.2.2).deep - (1 : Int)), onds (gSkip x_2.1.sg (xh x_2) x_2.2.2.2.2.2).nodes], .int .i64 (18 : Int), .str #[].toList, oints i.2.2.2.2.1] fun x_3 y => rA (s_qBlk n) x [.int .i64 (gAddK (xh x_3)), srd x_3.1 (gAdd (xh x_3) { kind := x_3.2.2.2.2.2.1, text := x_3.2.2.2.2.2.2.1, kids := x_3.2.2.2.2.2.2.2, blank := false })])) (inR IntKind.i64 ((iG i).deep - (1 : Int)) ∧ cA s_qPut [.box 0 [sgs x.1.sg, .int .i64 (iG i).pos, .bool (iG i).bad, .int .i64 ((iG i).deep - (1 : Int)), onds (iG i).nodes], .int .i64 (18 : Int), .str #[].toList, oints i.2.2.2.2.1] fun x_2 y => rA (s_qBlk n) x [.int .i64 (gAddK (xh x_2)), srd x_2.1 (gAdd (xh x_2) { kind := x_2.2.2.2.2.2.1, text := x_2.2.2.2.2.2.2.1, kids := x_2.2.2.2.2.2.2.2, blank := false })]))) (fun x => by kernel_rfl) fun (x : ST × Int × Int × Bool × List Nd) (hx : okQ x.1 (xg x) ∧ 20 - (xg x).deep ≤ (n : Int)) => (by
  dsimp only [cA, eA, eN, i_qBlk, ndA_e, oints, onds, rA, s_qBlank, s_qBlanked, s_qBlk, s_qMark, s_qPut, s_qSt, s_qWants, sgA_e, sgs, srd, hndL, hnd1, mvL, lnL, mvE, lnE, sndL]
  obtain ⟨s, p, d, b, ns⟩ := x; dsimp only [xg, xh] at hx ⊢
  obtain ⟨hx, hn⟩ := hx
  have hx : okQ s ⟨p, d, b, ns⟩ := hx
  have hD := okQ_D hx; have hM := okQ_M hx; have h1 := hD.1
  have td := ms_td hx
  (repeat' first | (with_reducible first | rfl | exact True.intro | apply inR_i64 | apply And.intro | ((first | apply bcase_dec | apply bcase_bne | apply bcase_beq | apply bcase_not) <;> intro _)) | (apply bcase_intro <;> intro _) | apply sl_eq | refine ex_flip () ?_ ?_ | ((first | apply ex_flip10 | apply ex_flip9 | apply ex_flip8 | apply ex_flip7 | apply ex_flip6 | apply ex_flip5 | apply ex_flip4 | apply ex_flip3 | apply ex_flip2) <;> try dsimp only) | apply ex_flip | (refine Prod.forall.2 ?_; intro _; try dsimp only) | (intro _; try dsimp only))
  all_goals (try dsimp only [xg, xh, yG, yS, iG, iF] at *)
  all_goals (try simp only [gs_eta] at *)
  all_goals first
    | (show Nat; skip)
    | rfl
    | exact h1
    | exact ms_1 hx (by assumption)
    | exact ms_2 hx (by assumption)
    | exact ms_ok hx (by assumption)
    | exact sk_ok (ms_ok hx (by assumption))
    | exact (ms_s hx hn (by assumption) (by assumption) (by assumption)).1
    | exact (ms_s hx hn (by assumption) (by assumption) (by assumption)).2.1
    | exact (ms_s hx hn (by assumption) (by assumption) (by assumption)).2.2
    | exact fn_4 h1 (by assumption)
    | exact nod_bk BL_st (by assumption)
    | exact nod_bk BL_st (by assumption) (by assumption)
    | exact (ms_g (by assumption) (by assumption) (by assumption) (by assumption) (bl_t (by assumption))).1
    | exact (ms_g (by assumption) (by assumption) (by assumption) (by assumption) (bl_f (by assumption))).1
    | exact ms_e hx (by assumption) (by assumption)
    | exact ms_b hx (by assumption) (by assumption)
    | exact (ms_dp hx (by assumption)).2.1
    | exact (ms_dp hx (by assumption)).2.2.1
    | (simp [room]; done)
    | (have hq := ms_ks hx (show mbS _ _ _ _ _ _ by assumption); (try simp only [room, List.length_append, List.length_cons, List.length_nil]); omega)
    | (have hq := ms_dp hx (show mbS _ _ _ _ _ _ by assumption); (try dsimp only at hq); (try simp only [i64max]); omega)
    | ((try simp only [i64max]); omega)
    | skip
  all_goals first
    | exact (ms_g (by assumption) (by assumption) (by assumption) (by assumption) (bl_t (by assumption))).2
    | exact (ms_g (by assumption) (by assumption) (by assumption) (by assumption) (bl_f (by assumption))).2
    | skip)
def s_qStS (n : Nat) : Sig := { X := ST × Int × Int × Bool × List Nd, args := fun x => [srd x.1 (xg x)], pre := fun x => (okQ x.1 (xg x) ∧ (xg x).bad = false) ∧ 21 - (xg x).deep ≤ (n + 1 : Nat), Y := Int × Int × Int × Bool × List Nd, post := fun x y => nodP x.1.sg (xg x) (stR x.1.sg (n + 1) false) (yS y), res := fun x y => .int .i64 y.1, outs := fun x y => [srd x.1 (yG y.2)], keep := true }
theorem qStS_ok (n : Nat) (h : Contract G Go.Proofs.Tryz.prog 108 (s_qSt n)) : Contract G Tryz.prog 108 (s_qStS n) :=
  vcFun_okP [(68, 0, s_qKindF), (69, 0, s_qText), (43, 0, s_qPut), (70, 0, s_qWord), (71, 0, s_qVar), (106, 0, s_qIs), (107, 0, s_qV), (72, 0, s_qWants), (144, 0, s_qHeld), (75, 0, (s_qBlk n))] [(45, ⟨Int,intA⟩)] false (fun x => []) Tryz.func108 rfl (by decide) ⟨qKindF_ok, qText_ok, qPut_ok, qWord_ok, qVar_ok, qIs_ok, qV_ok, qWants_ok, qHeld_ok, (qBlk_ok n h), trivial⟩ (fun (x : ST × Int × Int × Bool × List Nd) => True ∧ cA s_qKindF [srd x.1 (xg x), .int .i64 (5 : Int)] fun x_1 y => bcase (kdG x_1.1.sg (xh x_1) x_1.2.2.2.2.2) (cA s_qText [srd x.1 (xg x), .int .i64 (5 : Int)] fun x_2 y => cA s_qPut [srd x_2.1 (gText x_2.1.sg (xh x_2) x_2.2.2.2.2.2), .int .i64 (19 : Int), .str (gTextT x_2.1.sg (xh x_2) x_2.2.2.2.2.2), oints []] fun x_3 y => rA (s_qStS n) x [.int .i64 (gAddK (xh x_3)), srd x_3.1 (gAdd (xh x_3) { kind := x_3.2.2.2.2.2.1, text := x_3.2.2.2.2.2.2.1, kids := x_3.2.2.2.2.2.2.2, blank := false })]) (cA s_qWord [srd x.1 (xg x), .str #[(118 : UInt8), (97 : UInt8), (114 : UInt8)].toList] fun x_2 y => bcase (isG x_2.1.sg (xh x_2) (1 : Int) x_2.2.2.2.2.2) (cA s_qVar [srd x_2.1 (gWord x_2.1.sg (xh x_2) x_2.2.2.2.2.2)] fun x_3 y => rA (s_qStS n) x [.int .i64 y.1, srd x_3.1 (yG y.2)]) (cA s_qWord [srd x_2.1 (gWord x_2.1.sg (xh x_2) x_2.2.2.2.2.2), .str #[(114 : UInt8), (101 : UInt8), (116 : UInt8), (117 : UInt8), (114 : UInt8), (110 : UInt8)].toList] fun x_3 y => bcase (isG x_3.1.sg (xh x_3) (1 : Int) x_3.2.2.2.2.2) (cA s_qIs [srd x_3.1 (gWord x_3.1.sg (xh x_3) x_3.2.2.2.2.2), .int .i64 (4 : Int), .str #[(59 : UInt8)].toList] fun x_4 y => bcase (!isG x_4.1.sg (xh x_4) x_4.2.2.2.2.2.1 x_4.2.2.2.2.2.2) (cA s_qV [srd x_4.1 (xh x_4)] fun x_5 y => ∃ (x_6 : Int), y.1 = x_6 ∧ ∃ (zs : List Int), oints [x_6] = oints zs ∧ leafy intA ∧ room ((0 : Nat) + List.length zs) (8 : Nat) ∧ cA s_qWants [srd x_5.1 (yG y.2), .str #[(59 : UInt8)].toList] fun x_7 y => cA s_qPut [srd x_7.1 (gTake x_7.1.sg (xh x_7) x_7.2.2.2.2.2), .int .i64 (15 : Int), .str #[].toList, oints ([] ++ zs)] fun x_8 y => rA (s_qStS n) x [.int .i64 (gAddK (xh x_8)), srd x_8.1 (gAdd (xh x_8) { kind := x_8.2.2.2.2.2.1, text := x_8.2.2.2.2.2.2.1, kids := x_8.2.2.2.2.2.2.2, blank := false })]) (cA s_qWants [srd x_4.1 (xh x_4), .str #[(59 : UInt8)].toList] fun x_5 y => cA s_qPut [srd x_5.1 (gTake x_5.1.sg (xh x_5) x_5.2.2.2.2.2), .int .i64 (15 : Int), .str #[].toList, oints []] fun x_6 y => rA (s_qStS n) x [.int .i64 (gAddK (xh x_6)), srd x_6.1 (gAdd (xh x_6) { kind := x_6.2.2.2.2.2.1, text := x_6.2.2.2.2.2.2.1, kids := x_6.2.2.2.2.2.2.2, blank := false })])) (cA s_qWord [srd x_3.1 (gWord x_3.1.sg (xh x_3) x_3.2.2.2.2.2), .str #[(105 : UInt8), (102 : UInt8)].toList] fun x_4 y => bcase (isG x_4.1.sg (xh x_4) (1 : Int) x_4.2.2.2.2.2) (cA s_qHeld [srd x_4.1 (gWord x_4.1.sg (xh x_4) x_4.2.2.2.2.2)] fun x_5 y => ∃ (x_6 : Int), y.1 = x_6 ∧ cA (s_qBlk n) [srd x_5.1 (yG y.2)] fun x_7 y => ∃ (x_8 : Int), y.1 = x_8 ∧ ∃ (zs : List Int), oints [x_8] = oints zs ∧ leafy intA ∧ room (List.length [x_6] + List.length zs) (8 : Nat) ∧ cA s_qWord [srd x_7.1 (yG y.2), .str #[(101 : UInt8), (108 : UInt8), (115 : UInt8), (101 : UInt8)].toList] fun x_9 y => bcase (isG x_9.1.sg (xh x_9) (1 : Int) x_9.2.2.2.2.2) (cA (s_qBlk n) [srd x_9.1 (gWord x_9.1.sg (xh x_9) x_9.2.2.2.2.2)] fun x_10 y => ∃ (x_11 : Int), y.1 = x_11 ∧ ∃ (zs_1 : List Int), oints [x_11] = oints zs_1 ∧ leafy intA ∧ room (List.length (x_6 :: List.append._f [] PUnit.unit zs) + List.length zs_1) (8 : Nat) ∧ cA s_qPut [srd x_10.1 (yG y.2), .int .i64 (16 : Int), .str #[].toList, oints (x_6 :: List.append._f [] PUnit.unit zs ++ zs_1)] fun x_12 y => rA (s_qStS n) x [.int .i64 (gAddK (xh x_12)), srd x_12.1 (gAdd (xh x_12) { kind := x_12.2.2.2.2.2.1, text := x_12.2.2.2.2.2.2.1, kids := x_12.2.2.2.2.2.2.2, blank := false })]) (cA s_qPut [srd x_9.1 (gWord x_9.1.sg (xh x_9) x_9.2.2.2.2.2), .int .i64 (16 : Int), .str #[].toList, oints ([x_6] ++ zs)] fun x_10 y => rA (s_qStS n) x [.int .i64 (gAddK (xh x_10)), srd x_10.1 (gAdd (xh x_10) { kind := x_10.2.2.2.2.2.1, text := x_10.2.2.2.2.2.2.1, kids := x_10.2.2.2.2.2.2.2, blank := false })])) (cA s_qWord [srd x_4.1 (gWord x_4.1.sg (xh x_4) x_4.2.2.2.2.2), .str #[(119 : UInt8), (104 : UInt8), (105 : UInt8), (108 : UInt8), (101 : UInt8)].toList] fun x_5 y => bcase (isG x_5.1.sg (xh x_5) (1 : Int) x_5.2.2.2.2.2) (cA s_qHeld [srd x_5.1 (gWord x_5.1.sg (xh x_5) x_5.2.2.2.2.2)] fun x_6 y => ∃ (x_7 : Int), y.1 = x_7 ∧ cA (s_qBlk n) [srd x_6.1 (yG y.2)] fun x_8 y => ∃ (x_9 : Int), y.1 = x_9 ∧ ∃ (zs : List Int), oints [x_9] = oints zs ∧ leafy intA ∧ room (List.length [x_7] + List.length zs) (8 : Nat) ∧ cA s_qPut [srd x_8.1 (yG y.2), .int .i64 (17 : Int), .str #[].toList, oints ([x_7] ++ zs)] fun x_10 y => rA (s_qStS n) x [.int .i64 (gAddK (xh x_10)), srd x_10.1 (gAdd (xh x_10) { kind := x_10.2.2.2.2.2.1, text := x_10.2.2.2.2.2.2.1, kids := x_10.2.2.2.2.2.2.2, blank := false })]) (true = true ∧ true = true ∧ ∃ (x_6 : ST × Int × Int × Bool × List Nd × Int), (rOk x_6.1 (xh x_6) ∧ x_6.2.2.2.2.2 ≠ (0 : Int)) ∧ AV.pf [AV.sl false (0 : Nat) (4 : Nat) Sg (fun (x : Sg) => fzL._f [.int .i64 x.kind, .str x.text, .int .i64 x.pos, .bool x.blank] ⟨AV.rec (fun (k : IntKind) (n : Int) => ⟨fz._f (AV.int k n) PUnit.unit, PUnit.unit⟩) (fun (b : Bool) => ⟨fz._f (.bool b) PUnit.unit, PUnit.unit⟩) (fun (l : List UInt8) => ⟨fz._f (.str l) PUnit.unit, PUnit.unit⟩) (fun (v : Value) => ⟨fz._f (.val v) PUnit.unit, PUnit.unit⟩) ⟨fz._f AV.any PUnit.unit, PUnit.unit⟩ ⟨fz._f .top PUnit.unit, PUnit.unit⟩ ⟨fz._f .nil PUnit.unit, PUnit.unit⟩ (fun (id : Nat) => ⟨fz._f (AV.hole id) PUnit.unit, PUnit.unit⟩) (fun (id : Nat) => ⟨fz._f (AV.al id) PUnit.unit, PUnit.unit⟩) (fun (id k sz off : Nat) => ⟨fz._f (AV.po id k sz off) PUnit.unit, PUnit.unit⟩) (fun (fs : List AV) (fs_ih : List AV ×' AV.below_1 fs) => ⟨fz._f (.agg fs) fs_ih, fs_ih⟩) (fun (vs : List AV) (vs_ih : List AV ×' AV.below_1 vs) => ⟨fz._f (.tup vs) vs_ih, vs_ih⟩) (fun (id : Nat) (c : List AV) (c_ih : List AV ×' AV.below_1 c) => ⟨fz._f (.box id c) c_ih, c_ih⟩) (fun (x : Value) (c : List AV) (c_ih : List AV ×' AV.below_1 c) => ⟨fz._f (AV.bv x c) c_ih, c_ih⟩) (fun (x : Value) => ⟨fz._f (AV.hv x) PUnit.unit, PUnit.unit⟩) (fun (c : List AV) (c_ih : List AV ×' AV.below_1 c) => ⟨fz._f (AV.pf c) c_ih, c_ih⟩) (fun (fn : Fn) (caps : List AV) (caps_ih : List AV ×' AV.below_1 caps) => ⟨fz._f (AV.clo fn caps) caps_ih, caps_ih⟩) (fun (own : Bool) (id sz : Nat) (α : Type) (f : α → List AV) (xs : List α) (f_ih : (a : α) → List AV ×' AV.below_1 (f a)) => ⟨fz._f (AV.sl own id sz α f xs) f_ih, f_ih⟩) ⟨fzL._f [] PUnit.unit, PUnit.unit⟩ (fun (head : AV) (tail : List AV) (head_ih : AV ×' AV.below head) (tail_ih : List AV ×' AV.below_1 tail) => ⟨fzL._f (head :: tail) ⟨head_ih, tail_ih⟩, head_ih, tail_ih⟩) (.int .i64 x.kind), AV.rec_1 (fun (k : IntKind) (n : Int) => ⟨fz._f (AV.int k n) PUnit.unit, PUnit.unit⟩) (fun (b : Bool) => ⟨fz._f (.bool b) PUnit.unit, PUnit.unit⟩) (fun (l : List UInt8) => ⟨fz._f (.str l) PUnit.unit, PUnit.unit⟩) (fun (v : Value) => ⟨fz._f (.val v) PUnit.unit, PUnit.unit⟩) ⟨fz._f AV.any PUnit.unit, PUnit.unit⟩ ⟨fz._f .top PUnit.unit, PUnit.unit⟩ ⟨fz._f .nil PUnit.unit, PUnit.unit⟩ (fun (id : Nat) => ⟨fz._f (AV.hole id) PUnit.unit, PUnit.unit⟩) (fun (id : Nat) => ⟨fz._f (AV.al id) PUnit.unit, PUnit.unit⟩) (fun (id k sz off : Nat) => ⟨fz._f (AV.po id k sz off) PUnit.unit, PUnit.unit⟩) (fun (fs : List AV) (fs_ih : List AV ×' AV.below_1 fs) => ⟨fz._f (.agg fs) fs_ih, fs_ih⟩) (fun (vs : List AV) (vs_ih : List AV ×' AV.below_1 vs) => ⟨fz._f (.tup vs) vs_ih, vs_ih⟩) (fun (id : Nat) (c : List AV) (c_ih : List AV ×' AV.below_1 c) => ⟨fz._f (.box id c) c_ih, c_ih⟩) (fun (x : Value) (c : List AV) (c_ih : List AV ×' AV.below_1 c) => ⟨fz._f (AV.bv x c) c_ih, c_ih⟩) (fun (x : Value) => ⟨fz._f (AV.hv x) PUnit.unit, PUnit.unit⟩) (fun (c : List AV) (c_ih : List AV ×' AV.below_1 c) => ⟨fz._f (AV.pf c) c_ih, c_ih⟩) (fun (fn : Fn) (caps : List AV) (caps_ih : List AV ×' AV.below_1 caps) => ⟨fz._f (AV.clo fn caps) caps_ih, caps_ih⟩) (fun (own : Bool) (id sz : Nat) (α : Type) (f : α → List AV) (xs : List α) (f_ih : (a : α) → List AV ×' AV.below_1 (f a)) => ⟨fz._f (AV.sl own id sz α f xs) f_ih, f_ih⟩) ⟨fzL._f [] PUnit.unit, PUnit.unit⟩ (fun (head : AV) (tail : List AV) (head_ih : AV ×' AV.below head) (tail_ih : List AV ×' AV.below_1 tail) => ⟨fzL._f (head :: tail) ⟨head_ih, tail_ih⟩, head_ih, tail_ih⟩) [.str x.text, .int .i64 x.pos, .bool x.blank]⟩) x_5.1.sg, .int .i64 (gWord x_5.1.sg (xh x_5) x_5.2.2.2.2.2).pos, .bool (gWord x_5.1.sg (xh x_5) x_5.2.2.2.2.2).bad, .int .i64 (gWord x_5.1.sg (xh x_5) x_5.2.2.2.2.2).deep, AV.sl false (0 : Nat) (4 : Nat) Nd (fun (x : Nd) => fzL._f [.int .i64 x.kind, .str x.text, oints x.kids, .bool x.blank] ⟨AV.rec (fun (k : IntKind) (n : Int) => ⟨fz._f (AV.int k n) PUnit.unit, PUnit.unit⟩) (fun (b : Bool) => ⟨fz._f (.bool b) PUnit.unit, PUnit.unit⟩) (fun (l : List UInt8) => ⟨fz._f (.str l) PUnit.unit, PUnit.unit⟩) (fun (v : Value) => ⟨fz._f (.val v) PUnit.unit, PUnit.unit⟩) ⟨fz._f AV.any PUnit.unit, PUnit.unit⟩ ⟨fz._f .top PUnit.unit, PUnit.unit⟩ ⟨fz._f .nil PUnit.unit, PUnit.unit⟩ (fun (id : Nat) => ⟨fz._f (AV.hole id) PUnit.unit, PUnit.unit⟩) (fun (id : Nat) => ⟨fz._f (AV.al id) PUnit.unit, PUnit.unit⟩) (fun (id k sz off : Nat) => ⟨fz._f (AV.po id k sz off) PUnit.unit, PUnit.unit⟩) (fun (fs : List AV) (fs_ih : List AV ×' AV.below_1 fs) => ⟨fz._f (.agg fs) fs_ih, fs_ih⟩) (fun (vs : List AV) (vs_ih : List AV ×' AV.below_1 vs) => ⟨fz._f (.tup vs) vs_ih, vs_ih⟩) (fun (id : Nat) (c : List AV) (c_ih : List AV ×' AV.below_1 c) => ⟨fz._f (.box id c) c_ih, c_ih⟩) (fun (x : Value) (c : List AV) (c_ih : List AV ×' AV.below_1 c) => ⟨fz._f (AV.bv x c) c_ih, c_ih⟩) (fun (x : Value) => ⟨fz._f (AV.hv x) PUnit.unit, PUnit.unit⟩) (fun (c : List AV) (c_ih : List AV ×' AV.below_1 c) => ⟨fz._f (AV.pf c) c_ih, c_ih⟩) (fun (fn : Fn) (caps : List AV) (caps_ih : List AV ×' AV.below_1 caps) => ⟨fz._f (AV.clo fn caps) caps_ih, caps_ih⟩) (fun (own : Bool) (id sz : Nat) (α : Type) (f : α → List AV) (xs : List α) (f_ih : (a : α) → List AV ×' AV.below_1 (f a)) => ⟨fz._f (AV.sl own id sz α f xs) f_ih, f_ih⟩) ⟨fzL._f [] PUnit.unit, PUnit.unit⟩ (fun (head : AV) (tail : List AV) (head_ih : AV ×' AV.below head) (tail_ih : List AV ×' AV.below_1 tail) => ⟨fzL._f (head :: tail) ⟨head_ih, tail_ih⟩, head_ih, tail_ih⟩) (.int .i64 x.kind), AV.rec_1 (fun (k : IntKind) (n : Int) => ⟨fz._f (AV.int k n) PUnit.unit, PUnit.unit⟩) (fun (b : Bool) => ⟨fz._f (.bool b) PUnit.unit, PUnit.unit⟩) (fun (l : List UInt8) => ⟨fz._f (.str l) PUnit.unit, PUnit.unit⟩) (fun (v : Value) => ⟨fz._f (.val v) PUnit.unit, PUnit.unit⟩) ⟨fz._f AV.any PUnit.unit, PUnit.unit⟩ ⟨fz._f .top PUnit.unit, PUnit.unit⟩ ⟨fz._f .nil PUnit.unit, PUnit.unit⟩ (fun (id : Nat) => ⟨fz._f (AV.hole id) PUnit.unit, PUnit.unit⟩) (fun (id : Nat) => ⟨fz._f (AV.al id) PUnit.unit, PUnit.unit⟩) (fun (id k sz off : Nat) => ⟨fz._f (AV.po id k sz off) PUnit.unit, PUnit.unit⟩) (fun (fs : List AV) (fs_ih : List AV ×' AV.below_1 fs) => ⟨fz._f (.agg fs) fs_ih, fs_ih⟩) (fun (vs : List AV) (vs_ih : List AV ×' AV.below_1 vs) => ⟨fz._f (.tup vs) vs_ih, vs_ih⟩) (fun (id : Nat) (c : List AV) (c_ih : List AV ×' AV.below_1 c) => ⟨fz._f (.box id c) c_ih, c_ih⟩) (fun (x : Value) (c : List AV) (c_ih : List AV ×' AV.below_1 c) => ⟨fz._f (AV.bv x c) c_ih, c_ih⟩) (fun (x : Value) => ⟨fz._f (AV.hv x) PUnit.unit, PUnit.unit⟩) (fun (c : List AV) (c_ih : List AV ×' AV.below_1 c) => ⟨fz._f (AV.pf c) c_ih, c_ih⟩) (fun (fn : Fn) (caps : List AV) (caps_ih : List AV ×' AV.below_1 caps) => ⟨fz._f (AV.clo fn caps) caps_ih, caps_ih⟩) (fun (own : Bool) (id sz : Nat) (α : Type) (f : α → List AV) (xs : List α) (f_ih : (a : α) → List AV ×' AV.below_1 (f a)) => ⟨fz._f (AV.sl own id sz α f xs) f_ih, f_ih⟩) ⟨fzL._f [] PUnit.unit, PUnit.unit⟩ (fun (head : AV) (tail : List AV) (head_ih : AV ×' AV.below head) (tail_ih : List AV ×' AV.below_1 tail) => ⟨fzL._f (head :: tail) ⟨head_ih, tail_ih⟩, head_ih, tail_ih⟩) [.str x.text, oints x.kids, .bool x.blank]⟩) (gWord x_5.1.sg (xh x_5) x_5.2.2.2.2.2).nodes] = AV.pf [sgs x_6.1.sg, .int .i64 (xh x_6).pos, .bool (xh x_6).bad, .int .i64 (xh x_6).deep, nds (xh x_6).nodes] ∧ (1 : Int) = x_6.2.2.2.2.2 ∧ ∃ (y0 : Unit), (∀ (y : Unit), True → AV.bool (kdG x_6.1.sg (xh x_6) x_6.2.2.2.2.2) = AV.bool (kdG x_6.1.sg (xh x_6) x_6.2.2.2.2.2)) ∧ true = true ∧ bcase (kdG x_6.1.sg (xh x_6) x_6.2.2.2.2.2) (inR IntKind.i64 ((gWord x_5.1.sg (xh x_5) x_5.2.2.2.2.2).pos + (1 : Int)) ∧ bcase (decide ((gWord x_5.1.sg (xh x_5) x_5.2.2.2.2.2).pos + (1 : Int) < (↑(List.length x_5.1.sg) : Int))) (inR IntKind.i64 ((gWord x_5.1.sg (xh x_5) x_5.2.2.2.2.2).pos + (1 : Int)) ∧ ((0 : Int) ≤ (gWord x_5.1.sg (xh x_5) x_5.2.2.2.2.2).pos + (1 : Int) ∧ (gWord x_5.1.sg (xh x_5) x_5.2.2.2.2.2).pos + (1 : Int) < (↑(List.length x_5.1.sg) : Int)) ∧ ∀ (e : Sg), x_5.1.sg[Int.toNat ((gWord x_5.1.sg (xh x_5) x_5.2.2.2.2.2).pos + (1 : Int))]? = some e → bcase (e.kind == (4 : Int)) (inR IntKind.i64 ((gWord x_5.1.sg (xh x_5) x_5.2.2.2.2.2).pos + (1 : Int)) ∧ ((0 : Int) ≤ (gWord x_5.1.sg (xh x_5) x_5.2.2.2.2.2).pos + (1 : Int) ∧ (gWord x_5.1.sg (xh x_5) x_5.2.2.2.2.2).pos + (1 : Int) < (↑(List.length x_5.1.sg) : Int)) ∧ ∀ (e : Sg), x_5.1.sg[Int.toNat ((gWord x_5.1.sg (xh x_5) x_5.2.2.2.2.2).pos + (1 : Int))]? = some e → bcase (e.text == #[(61 : UInt8)].toList) (cA s_qText [srd x_5.1 (gWord x_5.1.sg (xh x_5) x_5.2.2.2.2.2), .int .i64 (1 : Int)] fun x_7 y => cA s_qWants [srd x_7.1 (gText x_7.1.sg (xh x_7) x_7.2.2.2.2.2), .str #[(61 : UInt8)].toList] fun x_8 y => cA s_qV [srd x_8.1 (gTake x_8.1.sg (xh x_8) x_8.2.2.2.2.2)] fun x_9 y => cA s_qWants [srd x_9.1 (yG y.2), .str #[(59 : UInt8)].toList] fun x_10 y_1 => ∃ (x_11 : Int), y.1 = x_11 ∧ cA s_qPut [srd x_10.1 (gTake x_10.1.sg (xh x_10) x_10.2.2.2.2.2), .int .i64 (13 : Int), .str (gTextT x_7.1.sg (xh x_7) x_7.2.2.2.2.2), oints [x_11]] fun x_12 y => rA (s_qStS n) x [.int .i64 (gAddK (xh x_12)), srd x_12.1 (gAdd (xh x_12) { kind := x_12.2.2.2.2.2.1, text := x_12.2.2.2.2.2.2.1, kids := x_12.2.2.2.2.2.2.2, blank := false })]) (cA s_qV [srd x_5.1 (gWord x_5.1.sg (xh x_5) x_5.2.2.2.2.2)] fun x_7 y => cA s_qWants [srd x_7.1 (yG y.2), .str #[(59 : UInt8)].toList] fun x_8 y_1 => ∃ (x_9 : Int), y.1 = x_9 ∧ cA s_qPut [srd x_8.1 (gTake x_8.1.sg (xh x_8) x_8.2.2.2.2.2), .int .i64 (14 : Int), .str #[].toList, oints [x_9]] fun x_10 y => rA (s_qStS n) x [.int .i64 (gAddK (xh x_10)), srd x_10.1 (gAdd (xh x_10) { kind := x_10.2.2.2.2.2.1, text := x_10.2.2.2.2.2.2.1, kids := x_10.2.2.2.2.2.2.2, blank := false })])) (cA s_qV [srd x_5.1 (gWord x_5.1.sg (xh x_5) x_5.2.2.2.2.2)] fun x_7 y => cA s_qWants [srd x_7.1 (yG y.2), .str #[(59 : UInt8)].toList] fun x_8 y_1 => ∃ (x_9 : Int), y.1 = x_9 ∧ cA s_qPut [srd x_8.1 (gTake x_8.1.sg (xh x_8) x_8.2.2.2.2.2), .int .i64 (14 : Int), .str #[].toList, oints [x_9]] fun x_10 y => rA (s_qStS n) x [.int .i64 (gAddK (xh x_10)), srd x_10.1 (gAdd (xh x_10) { kind := x_10.2.2.2.2.2.1, text := x_10.2.2.2.2.2.2.1, kids := x_10.2.2.2.2.2.2.2, blank := false })])) (cA s_qV [srd x_5.1 (gWord x_5.1.sg (xh x_5) x_5.2.2.2.2.2)] fun x_7 y => cA s_qWants [srd x_7.1 (yG y.2), .str #[(59 : UInt8)].toList] fun x_8 y_1 => ∃ (x_9 : Int), y.1 = x_9 ∧ cA s_qPut [srd x_8.1 (gTake x_8.1.sg (xh x_8) x_8.2.2.2.2.2), .int .i64 (14 : Int), .str #[].toList, oints [x_9]] fun x_10 y => rA (s_qStS n) x [.int .i64 (gAddK (xh x_10)), srd x_10.1 (gAdd (xh x_10) { kind := x_10.2.2.2.2.2.1, text := x_10.2.2.2.2.2.2.1, kids := x_10.2.2.2.2.2.2.2, blank := false })])) (cA s_qV [srd x_5.1 (gWord x_5.1.sg (xh x_5) x_5.2.2.2.2.2)] fun x_7 y => cA s_qWants [srd x_7.1 (yG y.2), .str #[(59 : UInt8)].toList] fun x_8 y_1 => ∃ (x_9 : Int), y.1 = x_9 ∧ cA s_qPut [srd x_8.1 (gTake x_8.1.sg (xh x_8) x_8.2.2.2.2.2), .int .i64 (14 : Int), .str #[].toList, oints [x_9]] fun x_10 y => rA (s_qStS n) x [.int .i64 (gAddK (xh x_10)), srd x_10.1 (gAdd (xh x_10) { kind := x_10.2.2.2.2.2.1, text := x_10.2.2.2.2.2.2.1, kids := x_10.2.2.2.2.2.2.2, blank := false })]))))))) (fun x => by kernel_rfl) fun (x : ST × Int × Int × Bool × List Nd) (hx : (okQ x.1 (xg x) ∧ (xg x).bad = false) ∧ 21 - (xg x).deep ≤ (n + 1 : Nat)) => (by
  dsimp only [cA, ndA_e, nds, oints, onds, rA, s_qBlk, s_qHeld, s_qIs, s_qKindF, s_qPut, s_qStS, s_qText, s_qV, s_qVar, s_qWants, s_qWord, sgA_e, sgs, srd, srf, hndL, hnd1, mvL, lnL, mvE, lnE]
  obtain ⟨s, p, d, b, ns⟩ := x; dsimp only [xg, xh] at hx ⊢
  obtain ⟨⟨hx, hb⟩, hd⟩ := hx
  have hx : okQ s ⟨p, d, b, ns⟩ := hx
  have hD := okQ_D hx; have hM := okQ_M hx; have h1 := hD.1
  (repeat' first | (show AV.pf _ = AV.pf _; first | exact pf_q | (with_unfolding_all exact pf_q) | (with_unfolding_all rfl)) | (with_reducible first | rfl | exact True.intro | apply inR_i64 | apply And.intro | ((first | apply bcase_dec | apply bcase_bne | apply bcase_beq | apply bcase_not) <;> intro _)) | (apply bcase_intro <;> intro _) | apply sl_eq | refine ex_flip () ?_ ?_ | ((first | apply ex_flip10 | apply ex_flip9 | apply ex_flip8 | apply ex_flip7 | apply ex_flip6 | apply ex_flip5 | apply ex_flip4 | apply ex_flip3 | apply ex_flip2) <;> try dsimp only) | apply ex_flip | (refine Prod.forall.2 ?_; intro _; try dsimp only) | (intro _; try dsimp only))
  all_goals (try dsimp only [xg, xh, yG, yS, iG, iF] at *)
  all_goals (try simp only [gs_eta] at *)
  all_goals (try (have e := wd_n (show isG s.sg ⟨p, d, b, ns⟩ 1 [118, 97, 114] = false by assumption); simp only [e] at *))
  all_goals (try (have e := wd_y (show isG s.sg ⟨p, d, b, ns⟩ 1 [118, 97, 114] = true by assumption); simp only [e] at *))
  all_goals (try (have e := wd_n (show isG s.sg ⟨p, d, b, ns⟩ 1 [114, 101, 116, 117, 114, 110] = false by assumption); simp only [e] at *))
  all_goals (try (have e := wd_y (show isG s.sg ⟨p, d, b, ns⟩ 1 [114, 101, 116, 117, 114, 110] = true by assumption); simp only [e] at *))
  all_goals (try (have e := wd_n (show isG s.sg ⟨p, d, b, ns⟩ 1 [105, 102] = false by assumption); simp only [e] at *))
  all_goals (try (have e := wd_y (show isG s.sg ⟨p, d, b, ns⟩ 1 [105, 102] = true by assumption); simp only [e] at *))
  all_goals (try (have e := wd_n (show isG s.sg ⟨p, d, b, ns⟩ 1 [119, 104, 105, 108, 101] = false by assumption); simp only [e] at *))
  all_goals (try (have e := wd_y (show isG s.sg ⟨p, d, b, ns⟩ 1 [119, 104, 105, 108, 101] = true by assumption); simp only [e] at *))
  all_goals first
    | rfl
    | exact h1
    | exact hM
    | omega
    | (simp; done)
    | exact sq_note hx (by assumption)
    | exact tx_ok h1 (by omega)
    | exact wd_ok hx (by assumption)
    | exact okQ_D (wd_ok hx (by assumption))
    | exact (okQ_D (wd_ok hx (by assumption))).1
    | exact sq_var hx (by assumption) (by assumption) (by assumption)
    | exact sq_r1 hx (by assumption) (by assumption) (by assumption) (by assumption) (by assumption)
    | exact sq_r0 hx (by assumption) (by assumption) (by assumption) (by assumption)
    | exact fn_4 h1 (by assumption)
    | exact (tk_ok (fn_4 h1 (by assumption))).1
    | exact (tk_ok (okQ_D (wd_ok hx (by assumption))).1).1
    | exact sq_set hx (by assumption) (by assumption) (by assumption) (by assumption) (by assumption) (se_4 (x := ⟨p, d, b, ns⟩) hb (by assumption) (by assumption) (kd_h (by assumption) (by assumption)) (tx_h (by assumption) (by assumption))) (by assumption)
    | exact sq_do hx (by assumption) (by assumption) (by assumption) (by assumption) (by assumption) (se_1 (by assumption)) (by assumption)
    | exact sq_do hx (by assumption) (by assumption) (by assumption) (by assumption) (by assumption) (se_2 (x := ⟨p, d, b, ns⟩) (by assumption)) (by assumption)
    | exact sq_do hx (by assumption) (by assumption) (by assumption) (by assumption) (by assumption) (se_3 (x := ⟨p, d, b, ns⟩) hb (by assumption) (.inl (kd_hn (by assumption) (by assumption)))) (by assumption)
    | exact sq_do hx (by assumption) (by assumption) (by assumption) (by assumption) (by assumption) (se_3 (x := ⟨p, d, b, ns⟩) hb (by assumption) (.inr (tx_hn (by assumption) (by assumption)))) (by assumption)
    | (have hq := rOk_n h1; dsimp only at hq; (try simp only [i64max]); omega)
    | exact (sq_td hx).1
    | exact okQ_D (sq_td hx).2
    | exact hD
    | (simp [room]; done)
    | exact (show room 2 8 by simp [room])
    | exact (show room 3 8 by simp [room])
    | skip
  all_goals (try (have hc := (show resP s.sg (gAdv ⟨p, d, b, ns⟩) (condR s.sg) _ by assumption); have k0 := wd_ok hx (show isG s.sg ⟨p, d, b, ns⟩ 1 _ = true by assumption); have k1 := okQ_res k0 hc; have k2 := okQ_dp (n := n) (x := ⟨p, d, b, ns⟩) hd hc))
  all_goals first
    | exact k1
    | exact k2
    | exact (okQ_D (okQ_nod k1 (by assumption))).1
    | exact wd_rk (okQ_D (okQ_nod k1 (by assumption))).1
    | exact wd_ok (okQ_nod k1 (by assumption)) (by assumption)
    | exact wd_oq (okQ_nod k1 (by assumption))
    | (have hh := okQ_wdp (m := [101, 108, 115, 101]) k2 (show nodP s.sg _ (blkR s.sg _) _ by assumption); exact hh)
    | exact fn_4 h1 (by assumption)
    | exact sq_if0 hx (by assumption) (by assumption) (by assumption) (by assumption) (by assumption) (by assumption) (by assumption)
    | exact sq_if1 hx (by assumption) (by assumption) (by assumption) (by assumption) (by assumption) (by assumption) (by assumption) (by assumption)
    | exact sq_wh hx (by assumption) (by assumption) (by assumption) (by assumption) (by assumption) (by assumption) (by assumption)
    | exact (okQ_D (okQ_nod (wd_oq (okQ_nod k1 (by assumption))) (by assumption))).1
    | exact h1
    | skip)
end Go.My
end
section
set_option linter.unusedVariables false
set_option linter.unusedSimpArgs false
namespace Go.My
open Go.Eng Go.Proofs
variable {G : GInv}
theorem qAll_st (n : Nat) : Contract G Go.Proofs.Tryz.prog 108 (s_qSt n) := by
  induction n with
  | zero => exact con_0 Tryz.func108 rfl (by decide) (fun x h => by have h1 := h.1.1.1.2; have h2 := h.2; omega)
  | succ n ih => exact qStS_ok n ih
def s_qB : Sig := { X := ST × Int × Int × Bool × List Nd, args := fun x => [srd x.1 (xg x)], pre := fun x => okQ x.1 (xg x), Y := Int × Int × Int × Bool × List Nd, post := fun x y => nodP x.1.sg (xg x) (blockR x.1.sg) (yS y), res := fun x y => .int .i64 y.1, outs := fun x y => [srd x.1 (yG y.2)], keep := true }
theorem qB_pre {s : ST} {g : Gs} (h : okQ s g) : okQ s g ∧ 20 - g.deep ≤ (stN : Int) := by
  have h1 := h.1.1.2.2.1.1
  exact ⟨h, by unfold stN; omega⟩
theorem qB_ok : Contract G Go.Proofs.Tryz.prog 75 s_qB :=
  have c := qBlk_ok (G := G) stN (qAll_st stN)
  ⟨⟨c.1.1, fun x y hx hy => c.1.2 x y (qB_pre hx) hy⟩, fun x hx => c.2 x (qB_pre hx)⟩
theorem mt_q {s : ST} {x : Gs} {v : List Int × Gs} (h : okQ s x) (hv : vlQ s.sg (nameR s.sg) [41] [] (gTake s.sg (gText s.sg x 1) [40]) v) : okQ s v.2 := by
  have a := tk_ok (m := [40]) (tx_ok (k := 1) h.1.1 (by omega))
  have e : (gText s.sg x 1).deep = x.deep := by unfold gText; split <;> rfl
  obtain ⟨b1, b2, b3, b4⟩ := vq_ok h.1.1.1 hv
  exact ⟨⟨b1, by have := h.1.2; omega⟩, h.2⟩
theorem mt_m {s : ST} {x : Gs} {v : List Int × Gs} {q : Int × Gs} (h : okQ s x) (hv : vlQ s.sg (nameR s.sg) [41] [] (gTake s.sg (gText s.sg x 1) [40]) v) (hq : nodP s.sg v.2 (blockR s.sg) q) :
    nodP s.sg x (methR s.sg false) (gAddK q.2, gAdd q.2 ⟨20, gTextT s.sg x 1, v.1 ++ [q.1], false⟩) := by
  rw [name_tx.1] at hv; rw [name_tx.2]
  obtain ⟨l, ⟨a, b⟩, rfl⟩ := hv
  exact meth_all (l := l) h.1.1.1 h.1.1.2 a b hq
def clS (sg : List Sg) (x y : Gs) (ks : List Int) (N : Nat) : Prop := manI sg (mem0R sg) [125] (gTake sg (gText sg (gAdv x) 1) [123]) y ks N ∧ y.deep = x.deep
theorem cS_0 {s : ST} {x : Gs} (h : okQ s (gAdv x)) : clS s.sg x (gTake s.sg (gText s.sg (gAdv x) 1) [123]) [] (s.sg.length + 1) := by
  have a := tx_ok (k := 1) h.1.1 (by omega)
  refine ⟨man_0 (tk_ok a).1.2, ?_⟩
  rw [(tk_ok a).2]; unfold gText; split <;> rfl
theorem cS_0w {s : ST} {x : Gs} (h : okQ s x) (h1 : isG s.sg x 1 [118, 97, 114] = false) (h2 : isG s.sg (gWord s.sg x [118, 97, 114]) 1 [99, 108, 97, 115, 115] = true) :
    clS s.sg x (gTake s.sg (gText s.sg (gWord s.sg (gWord s.sg x [118, 97, 114]) [99, 108, 97, 115, 115]) 1) [123]) [] (s.sg.length + 1) := by
  rw [wd_n h1] at h2 ⊢
  rw [wd_y h2]; exact cS_0 (wd_ok h h2)
theorem cS_tk {s : ST} {x : Gs} (h : okQ s (gAdv x)) : rOk s (gText s.sg (gAdv x) 1) ∧ rOk s (gTake s.sg (gText s.sg (gAdv x) 1) [123]) :=
  have a := tx_ok (k := 1) h.1.1 (by omega)
  ⟨a, (tk_ok a).1⟩
theorem cS_ok {s : ST} {x y : Gs} {ks : List Int} {N : Nat} (h : okQ s (gAdv x)) (hj : clS s.sg x y ks N) : okQ s y := ⟨⟨⟨h.1.1.1, hj.1.1.1⟩, by have := hj.2; have := h.1.2; simp only [gAdv] at *; omega⟩, h.2⟩
theorem cS_sk {s : ST} {x y : Gs} {ks : List Int} {N : Nat} (h : okQ s (gAdv x)) (hj : clS s.sg x y ks N) (hb : y.bad = false) (hq : isG s.sg y 4 [125] = false) : okQ s (gSkip s.sg y [125]) ∧ (gSkip s.sg y [125]).bad = false := by
  rw [skip_n hq]; exact ⟨cS_ok h hj, hb⟩
theorem cS_ks {s : ST} {x y : Gs} {ks : List Int} {N : Nat} (h : okQ s (gAdv x)) (hj : clS s.sg x y ks N) : ks.length ≤ 3001 := by
  have := hj.1.2.2.1; have := hj.1.1.1.1; have := h.1.1.1.1; omega
theorem cS_g {s : ST} {x y : Gs} {ks : List Int} {N : Nat} {b : Bool} {z : Int × Gs} (hj : clS s.sg x y ks N) (hb : y.bad = false) (hq : isG s.sg y 4 [125] = false) (hz : nodP s.sg (gSkip s.sg y [125]) (mem0R s.sg false) z) (e : b = (blG s.sg (gSkip s.sg y [125]) && decide (0 < (ks.length : Int)))) :
    clS s.sg x (gBl z.2 z.1 b) (ks ++ [z.1]) (N - 1) ∧ N - 1 < N := by
  rw [skip_n hq] at hz e
  rw [blG_pk hb] at e
  have hz2 : nodP s.sg y (mem0R s.sg b) (z.1, gBl z.2 z.1 b) := nod_bl BL_mem0 hz
  subst e
  obtain ⟨a, b⟩ := ex_pred (man_go hj.1 hb hq (z := (z.1, gBl z.2 z.1 ((pkG s.sg y 0).blank && decide (0 < (ks.length : Int))))) (by
    have : decide (0 < ks.length) = decide (0 < (ks.length : Int)) := by simp
    rw [this]; exact hz2))
  have := (nod_dp hz2).1
  exact ⟨⟨a, by have := hj.2; simp only at *; omega⟩, b⟩
theorem cS_all {s : ST} {x : Gs} {l : List Int × Gs} (h : okQ s (gAdv x)) (hl : resP s.sg (gTake s.sg (gText s.sg (gAdv x) 1) [123]) (manyR s.sg (mem0R s.sg) [125] (s.sg.length + 1) []) l) (hll : l.1.length ≤ 3001) :
    nodP s.sg (gAdv x) (clsR s.sg false) (gAddK (gTake s.sg l.2 [125]), gAdd (gTake s.sg l.2 [125]) ⟨21, gTextT s.sg (gAdv x) 1, l.1, false⟩) := by
  rw [name_tx.1] at hl; rw [name_tx.2]
  exact nod_cl hl.1 (nodB1 (nameT_len h.1.1.1) (by omega)) (cls_all h.1.1.1 h.1.1.2 hl hll)
theorem cS_e {s : ST} {x y : Gs} {ks : List Int} {N : Nat} (h : okQ s (gAdv x)) (hj : clS s.sg x y ks N) (hq : isG s.sg y 4 [125] = true) :
    nodP s.sg (gAdv x) (clsR s.sg false) (gAddK (gSkip s.sg y [125]), gAdd (gSkip s.sg y [125]) ⟨21, gTextT s.sg (gAdv x) 1, ks, false⟩) := by
  rw [skip_yG hq, ← take_y hq]; exact cS_all (l := (ks, y)) h (man_end hj.1 hq) (cS_ks h hj)
theorem cS_b {s : ST} {x y : Gs} {ks : List Int} {N : Nat} (h : okQ s (gAdv x)) (hj : clS s.sg x y ks N) (hb : y.bad = true) :
    nodP s.sg (gAdv x) (clsR s.sg false) (gAddK y, gAdd y ⟨21, gTextT s.sg (gAdv x) 1, ks, false⟩) := by
  have a := cS_all (l := (ks, y)) h (man_bad hj.1 hb) (cS_ks h hj)
  simp only [take_b hb] at a; exact a
theorem m0_note {s : ST} {x : Gs} (h : okQ s x) (hk : kdG s.sg x 5 = true) : nodP s.sg x (mem0R s.sg false) (gAddK (gText s.sg x 5), gAdd (gText s.sg x 5) ⟨19, gTextT s.sg x 5, [], false⟩) := by
  have hn := hk
  rw [kdG_f (by omega)] at hn
  exact leaf_alt h.1.1.1 h.1.1.2 (by omega) hk (mem0_note h.1.1.1 h.1.1.2 (by simpa using hn))
theorem m1_note {s : ST} {x : Gs} (h : okQ s x) (hk : kdG s.sg x 5 = true) : nodP s.sg x (memR s.sg false) (gAddK (gText s.sg x 5), gAdd (gText s.sg x 5) ⟨19, gTextT s.sg x 5, [], false⟩) := by
  have hn := hk
  rw [kdG_f (by omega)] at hn
  exact leaf_alt h.1.1.1 h.1.1.2 (by omega) hk (mem_note h.1.1.1 h.1.1.2 (by simpa using hn))
theorem m0_var {s : ST} {x : Gs} {z : Int × Gs} (h : okQ s x) (hk : kdG s.sg x 5 = false) (hq : isG s.sg x 1 [118, 97, 114] = true) (hz : nodP s.sg (gAdv x) (varR s.sg false) z) : nodP s.sg x (mem0R s.sg false) z := mem0_var h.1.1.2 (kd_5 hk) hq hz
theorem m1_var {s : ST} {x : Gs} {z : Int × Gs} (h : okQ s x) (hk : kdG s.sg x 5 = false) (hq : isG s.sg x 1 [118, 97, 114] = true) (hz : nodP s.sg (gAdv x) (varR s.sg false) z) : nodP s.sg x (memR s.sg false) z := mem_var h.1.1.2 (kd_5 hk) hq hz
theorem m0_m {s : ST} {x : Gs} {z : Int × Gs} (h : okQ s x) (hk : kdG s.sg x 5 = false) (hq : isG s.sg x 1 [118, 97, 114] = false) (hz : nodP s.sg x (methR s.sg false) z) : nodP s.sg x (mem0R s.sg false) z := mem0_meth h.1.1.2 (kd_5 hk) hq hz
theorem m1_m {s : ST} {x : Gs} {z : Int × Gs} (h : okQ s x) (hk : kdG s.sg x 5 = false) (h1 : isG s.sg x 1 [118, 97, 114] = false) (hq : isG s.sg x 1 [99, 108, 97, 115, 115] = false) (hz : nodP s.sg x (methR s.sg false) z) : nodP s.sg x (memR s.sg false) z := mem_meth h.1.1.2 (kd_5 hk) h1 hq hz
theorem m1_c {s : ST} {x : Gs} {z : Int × Gs} (h : okQ s x) (hk : kdG s.sg x 5 = false) (h1 : isG s.sg x 1 [118, 97, 114] = false) (hq : isG s.sg x 1 [99, 108, 97, 115, 115] = true) (hz : nodP s.sg (gAdv x) (clsR s.sg false) z) : nodP s.sg x (memR s.sg false) z := mem_cls h.1.1.2 (kd_5 hk) h1 hq hz
def s_qMemNo : Sig := { X := ST × Int × Int × Bool × List Nd, args := fun x => [srd x.1 (xg x), .bool false], pre := fun x => False, Y := Int × Int × Int × Bool × List Nd, post := fun x y => True, res := fun x y => .int .i64 y.1, outs := fun x y => [srd x.1 (yG y.2), .top], keep := true }
theorem qMemNo_ok : Contract G Go.Proofs.Tryz.prog 41 s_qMemNo := con_0 Tryz.func41 rfl (by decide) (fun x h => h)
attribute [local irreducible] pE listR callR fnR nodP resP gsOk gTake gClose gAdd gPass gLeaf gSkip gNameN gNameK gAddK gCloseK pkG isG nmG kdG gText gTextT nameR vlQ gWord gBl blG varR retR condR valR blkR stR manyR okQ sgM clS mem0R memR methR clsR blockR
def s_qMem0  : Sig := { X := ST × Int × Int × Bool × List Nd, args := fun x => [srd x.1 (xg x), .bool false], pre := fun x => okQ x.1 (xg x) ∧ (xg x).bad = false, Y := Int × Int × Int × Bool × List Nd, post := fun x y => nodP x.1.sg (xg x) (mem0R x.1.sg false) (yS y), res := fun x y => .int .i64 y.1, outs := fun x y => [srd x.1 (yG y.2), .top], keep := true }
def i_qMem0  (x : ST × Int × Int × Bool × List Nd) : LS := { ι := Int × Int × Bool × List Nd × List Int × Nat, inv := fun i => False, regs := fun i => [(0, srd x.1 (iG i)), (5, .str (gTextT x.1.sg (gAdv (xg x)) 1)), (6, oints i.2.2.2.2.1)], als := [], meas := fun i => i.2.2.2.2.2 }
theorem qMem0_ok  : Contract G Tryz.prog 41 s_qMem0 :=
  vcFun_okP [(68, 0, s_qKind), (69, 0, s_qText), (43, 0, s_qPut), (70, 0, s_qWord), (71, 0, s_qVar), (72, 0, s_qWants), (73, 0, s_qMark), (40, 0, s_qBlank), (41, 0, s_qMemNo), (42, 0, s_qBlanked), (74, 0, s_qNames), (75, 0, s_qB)] [(45, ⟨Int,intA⟩)] false (fun x => [(9, i_qMem0  x)]) Tryz.func41 rfl (by decide) ⟨qKind_ok, qText_ok, qPut_ok, qWord_ok, qVar_ok, qWants_ok, qMark_ok, qBlank_ok, qMemNo_ok, qBlanked_ok, qNames_ok, qB_ok, trivial⟩ (fun (x : ST × Int × Int × Bool × List Nd) => True ∧ cA s_qKind [srd x.1 (xg x), .int .i64 (5 : Int)] fun x_1 y => bcase (kdG x_1.1.sg (xh x_1) x_1.2.2.2.2.2) (cA s_qText [srd x_1.1 (xh x_1), .int .i64 (5 : Int)] fun x_2 y => cA s_qPut [srd x_2.1 (gText x_2.1.sg (xh x_2) x_2.2.2.2.2.2), .int .i64 (19 : Int), .str (gTextT x_2.1.sg (xh x_2) x_2.2.2.2.2.2), oints []] fun x_3 y => rA s_qMem0 x [.int .i64 (gAddK (xh x_3)), srd x_3.1 (gAdd (xh x_3) { kind := x_3.2.2.2.2.2.1, text := x_3.2.2.2.2.2.2.1, kids := x_3.2.2.2.2.2.2.2, blank := false }), .top]) (cA s_qWord [srd x_1.1 (xh x_1), .str #[(118 : UInt8), (97 : UInt8), (114 : UInt8)].toList] fun x_2 y => bcase (isG x_2.1.sg (xh x_2) (1 : Int) x_2.2.2.2.2.2) (cA s_qVar [srd x_2.1 (gWord x_2.1.sg (xh x_2) x_2.2.2.2.2.2)] fun x_3 y => rA s_qMem0 x [.int .i64 y.1, srd x_3.1 (yG y.2), .top]) (cA s_qText [srd x_2.1 (gWord x_2.1.sg (xh x_2) x_2.2.2.2.2.2), .int .i64 (1 : Int)] fun x_3 y => cA s_qNames [srd x_3.1 (gText x_3.1.sg (xh x_3) x_3.2.2.2.2.2)] fun x_4 y => cA s_qB [srd x_4.1 (yG y.2)] fun x_5 y_1 => ∃ (x_6 : Int), y_1.1 = x_6 ∧ ∃ (zs : List Int), oints [x_6] = oints zs ∧ leafy intA ∧ room (List.length y.1 + List.length zs) (8 : Nat) ∧ cA s_qPut [srd x_5.1 (yG y_1.2), .int .i64 (20 : Int), .str (gTextT x_3.1.sg (xh x_3) x_3.2.2.2.2.2), oints (y.1 ++ zs)] fun x_7 y => rA s_qMem0 x [.int .i64 (gAddK (xh x_7)), srd x_7.1 (gAdd (xh x_7) { kind := x_7.2.2.2.2.2.1, text := x_7.2.2.2.2.2.2.1, kids := x_7.2.2.2.2.2.2.2, blank := false }), .top]))) (fun x => by kernel_rfl) fun (x : ST × Int × Int × Bool × List Nd) (hx : okQ x.1 (xg x) ∧ (xg x).bad = false) => (by
  dsimp only [cA, ndA_e, oints, onds, rA, s_qB, s_qKind, s_qMem0, s_qNames, s_qPut, s_qText, s_qVar, s_qWord, sgA_e, sgs, srd, hndL, hnd1, mvL, lnL, mvE, lnE]
  obtain ⟨s, p, d, b, ns⟩ := x; dsimp only [xg, xh] at hx ⊢
  obtain ⟨hx, hb⟩ := hx
  have hx : okQ s ⟨p, d, b, ns⟩ := hx
  have hD := okQ_D hx; have hM := okQ_M hx; have h1 := hD.1; have hs := h1.1
  (repeat' first | (with_reducible first | rfl | exact True.intro | apply inR_i64 | apply And.intro | ((first | apply bcase_dec | apply bcase_bne | apply bcase_beq | apply bcase_not) <;> intro _)) | (apply bcase_intro <;> intro _) | apply sl_eq | refine ex_flip () ?_ ?_ | ((first | apply ex_flip10 | apply ex_flip9 | apply ex_flip8 | apply ex_flip7 | apply ex_flip6 | apply ex_flip5 | apply ex_flip4 | apply ex_flip3 | apply ex_flip2) <;> try dsimp only) | apply ex_flip | (refine Prod.forall.2 ?_; intro _; try dsimp only) | (intro _; try dsimp only))
  all_goals (try dsimp only [xg, xh, yG, yS, iG, iF] at *)
  all_goals (try simp only [gs_eta] at *)
  all_goals (try (have e := wd_n (show isG s.sg ⟨p, d, b, ns⟩ 1 [118, 97, 114] = false by assumption); simp only [e] at *))
  all_goals (try (have e := wd_y (show isG s.sg ⟨p, d, b, ns⟩ 1 [118, 97, 114] = true by assumption); simp only [e] at *))
  all_goals first
    | rfl
    | exact h1
    | omega
    | contradiction
    | exact m0_note hx (by assumption)
    | exact tx_ok h1 (by omega)
    | exact wd_ok hx (by assumption)
    | exact m0_var hx (by assumption) (by assumption) (by assumption)
    | exact mt_q hx (by assumption)
    | exact fn_4 h1 (by assumption)
    | exact m0_m hx (by assumption) (by assumption) (mt_m hx (by assumption) (by assumption))
    | (have hq := vq_ln hs (show vlQ _ _ _ [] _ _ by assumption); (try simp only [room, List.length_append, List.length_cons, List.length_nil] at *); omega)
    | skip)
def s_qMem  : Sig := { X := ST × Int × Int × Bool × List Nd, args := fun x => [srd x.1 (xg x), .bool true], pre := fun x => okQ x.1 (xg x) ∧ (xg x).bad = false, Y := Int × Int × Int × Bool × List Nd, post := fun x y => nodP x.1.sg (xg x) (memR x.1.sg false) (yS y), res := fun x y => .int .i64 y.1, outs := fun x y => [srd x.1 (yG y.2), .top], keep := true }
def i_qMem  (x : ST × Int × Int × Bool × List Nd) : LS := { ι := Int × Int × Bool × List Nd × List Int × Nat, inv := fun i => clS x.1.sg (xg x) (iG i) i.2.2.2.2.1 i.2.2.2.2.2, regs := fun i => [(0, srd x.1 (iG i)), (5, .str (gTextT x.1.sg (gAdv (xg x)) 1)), (6, oints i.2.2.2.2.1)], als := [], meas := fun i => i.2.2.2.2.2 }
theorem qMem_ok  : Contract G Tryz.prog 41 s_qMem :=
  vcFun_okP [(68, 0, s_qKind), (69, 0, s_qText), (43, 0, s_qPut), (70, 0, s_qWord), (71, 0, s_qVar), (72, 0, s_qWants), (73, 0, s_qMark), (40, 0, s_qBlank), (41, 0, s_qMem0), (42, 0, s_qBlanked), (74, 0, s_qNames), (75, 0, s_qB)] [(45, ⟨Int,intA⟩)] false (fun x => [(9, i_qMem  x)]) Tryz.func41 rfl (by decide) ⟨qKind_ok, qText_ok, qPut_ok, qWord_ok, qVar_ok, qWants_ok, qMark_ok, qBlank_ok, qMem0_ok, qBlanked_ok, qNames_ok, qB_ok, trivial⟩ (fun (x : ST × Int × Int × Bool × List Nd) => True ∧ cA s_qKind [srd x.1 (xg x), .int .i64 (5 : Int)] fun x_1 y => bcase (kdG x_1.1.sg (xh x_1) x_1.2.2.2.2.2) (cA s_qText [srd x_1.1 (xh x_1), .int .i64 (5 : Int)] fun x_2 y => cA s_qPut [srd x_2.1 (gText x_2.1.sg (xh x_2) x_2.2.2.2.2.2), .int .i64 (19 : Int), .str (gTextT x_2.1.sg (xh x_2) x_2.2.2.2.2.2), oints []] fun x_3 y => rA s_qMem x [.int .i64 (gAddK (xh x_3)), srd x_3.1 (gAdd (xh x_3) { kind := x_3.2.2.2.2.2.1, text := x_3.2.2.2.2.2.2.1, kids := x_3.2.2.2.2.2.2.2, blank := false }), .top]) (cA s_qWord [srd x_1.1 (xh x_1), .str #[(118 : UInt8), (97 : UInt8), (114 : UInt8)].toList] fun x_2 y => bcase (isG x_2.1.sg (xh x_2) (1 : Int) x_2.2.2.2.2.2) (cA s_qVar [srd x_2.1 (gWord x_2.1.sg (xh x_2) x_2.2.2.2.2.2)] fun x_3 y => rA s_qMem x [.int .i64 y.1, srd x_3.1 (yG y.2), .top]) (cA s_qWord [srd x_2.1 (gWord x_2.1.sg (xh x_2) x_2.2.2.2.2.2), .str #[(99 : UInt8), (108 : UInt8), (97 : UInt8), (115 : UInt8), (115 : UInt8)].toList] fun x_3 y => bcase (isG x_3.1.sg (xh x_3) (1 : Int) x_3.2.2.2.2.2) (cA s_qText [srd x_3.1 (gWord x_3.1.sg (xh x_3) x_3.2.2.2.2.2), .int .i64 (1 : Int)] fun x_4 y => cA s_qWants [srd x_4.1 (gText x_4.1.sg (xh x_4) x_4.2.2.2.2.2), .str #[(123 : UInt8)].toList] fun x_5 y => eA (i_qMem x) [srd x_5.1 (gTake x_5.1.sg (xh x_5) x_5.2.2.2.2.2), .str (gTextT x_4.1.sg (xh x_4) x_4.2.2.2.2.2), oints []] ∧ ∀ (i : Int × Int × Bool × List Nd × List Int × Nat), clS x.1.sg (xg x) (iG i) i.2.2.2.2.1 i.2.2.2.2.2 → bcase (!(iG i).bad) (cA s_qMark [srd x.1 (iG i), .str #[(125 : UInt8)].toList] fun x_6 y => bcase (!isG x_6.1.sg (xh x_6) (4 : Int) x_6.2.2.2.2.2) (cA s_qBlank [srd x_6.1 (gSkip x_6.1.sg (xh x_6) x_6.2.2.2.2.2)] fun x_7 y => bcase (blG x_7.1.sg (xg x_7)) (cA s_qMem0 [srd x_7.1 (xg x_7), .bool false] fun x_8 y => cA s_qBlanked [srd x_8.1 (yG y.2), .int .i64 y.1, .bool (decide ((↑(List.length i.2.2.2.2.1) : Int) > (0 : Int)))] fun x_9 y_1 => ∃ (x_10 : Int), y.1 = x_10 ∧ ∃ (zs : List Int), oints [x_10] = oints zs ∧ leafy intA ∧ room (List.length i.2.2.2.2.1 + List.length zs) (8 : Nat) ∧ eN (i_qMem x) i [srd x_9.1 (gBl (xh x_9) x_9.2.2.2.2.2.1 x_9.2.2.2.2.2.2), .str (gTextT x.1.sg (gAdv (xg x)) (1 : Int)), oints (i.2.2.2.2.1 ++ zs)]) (cA s_qMem0 [srd x_7.1 (xg x_7), .bool false] fun x_8 y => cA s_qBlanked [srd x_8.1 (yG y.2), .int .i64 y.1, .bool false] fun x_9 y_1 => ∃ (x_10 : Int), y.1 = x_10 ∧ ∃ (zs : List Int), oints [x_10] = oints zs ∧ leafy intA ∧ room (List.length i.2.2.2.2.1 + List.length zs) (8 : Nat) ∧ eN (i_qMem x) i [srd x_9.1 (gBl (xh x_9) x_9.2.2.2.2.2.1 x_9.2.2.2.2.2.2), .str (gTextT x.1.sg (gAdv (xg x)) (1 : Int)), oints (i.2.2.2.2.1 ++ zs)])) (cA s_qPut [srd x_6.1 (gSkip x_6.1.sg (xh x_6) x_6.2.2.2.2.2), .int .i64 (21 : Int), .str (gTextT x.1.sg (gAdv (xg x)) (1 : Int)), oints i.2.2.2.2.1] fun x_7 y => rA s_qMem x [.int .i64 (gAddK (xh x_7)), srd x_7.1 (gAdd (xh x_7) { kind := x_7.2.2.2.2.2.1, text := x_7.2.2.2.2.2.2.1, kids := x_7.2.2.2.2.2.2.2, blank := false }), .top])) (cA s_qPut [srd x.1 (iG i), .int .i64 (21 : Int), .str (gTextT x.1.sg (gAdv (xg x)) (1 : Int)), oints i.2.2.2.2.1] fun x_6 y => rA s_qMem x [.int .i64 (gAddK (xh x_6)), srd x_6.1 (gAdd (xh x_6) { kind := x_6.2.2.2.2.2.1, text := x_6.2.2.2.2.2.2.1, kids := x_6.2.2.2.2.2.2.2, blank := false }), .top])) (cA s_qText [srd x_3.1 (gWord x_3.1.sg (xh x_3) x_3.2.2.2.2.2), .int .i64 (1 : Int)] fun x_4 y => cA s_qNames [srd x_4.1 (gText x_4.1.sg (xh x_4) x_4.2.2.2.2.2)] fun x_5 y => cA s_qB [srd x_5.1 (yG y.2)] fun x_6 y_1 => ∃ (x_7 : Int), y_1.1 = x_7 ∧ ∃ (zs : List Int), oints [x_7] = oints zs ∧ leafy intA ∧ room (List.length y.1 + List.length zs) (8 : Nat) ∧ cA s_qPut [srd x_6.1 (yG y_1.2), .int .i64 (20 : Int), .str (gTextT x_4.1.sg (xh x_4) x_4.2.2.2.2.2), oints (y.1 ++ zs)] fun x_8 y => rA s_qMem x [.int .i64 (gAddK (xh x_8)), srd x_8.1 (gAdd (xh x_8) { kind := x_8.2.2.2.2.2.1, text := x_8.2.2.2.2.2.2.1, kids := x_8.2.2.2.2.2.2.2, blank := false }), .top])))) (fun x => by kernel_rfl) fun (x : ST × Int × Int × Bool × List Nd) (hx : okQ x.1 (xg x) ∧ (xg x).bad = false) => (by
  dsimp only [cA, eA, eN, i_qMem, ndA_e, oints, onds, rA, s_qB, s_qBlank, s_qBlanked, s_qKind, s_qMark, s_qMem, s_qMem0, s_qNames, s_qPut, s_qText, s_qVar, s_qWants, s_qWord, sgA_e, sgs, srd, hndL, hnd1, mvL, lnL, mvE, lnE, sndL]
  obtain ⟨s, p, d, b, ns⟩ := x; dsimp only [xg, xh] at hx ⊢
  obtain ⟨hx, hb⟩ := hx
  have hx : okQ s ⟨p, d, b, ns⟩ := hx
  have hD := okQ_D hx; have hM := okQ_M hx; have h1 := hD.1; have hs := h1.1
  (repeat' first | (with_reducible first | rfl | exact True.intro | apply inR_i64 | apply And.intro | ((first | apply bcase_dec | apply bcase_bne | apply bcase_beq | apply bcase_not) <;> intro _)) | (apply bcase_intro <;> intro _) | apply sl_eq | refine ex_flip () ?_ ?_ | ((first | apply ex_flip10 | apply ex_flip9 | apply ex_flip8 | apply ex_flip7 | apply ex_flip6 | apply ex_flip5 | apply ex_flip4 | apply ex_flip3 | apply ex_flip2) <;> try dsimp only) | apply ex_flip | (refine Prod.forall.2 ?_; intro _; try dsimp only) | (intro _; try dsimp only))
  all_goals (try dsimp only [xg, xh, yG, yS, iG, iF] at *)
  all_goals (try simp only [gs_eta] at *)
  all_goals first
    | (show Nat; skip)
    | exact cS_0w hx (by assumption) (by assumption)
    | exact (cS_g (by assumption) (by assumption) (by assumption) (by assumption) (bl_t (by assumption))).1
    | exact (cS_g (by assumption) (by assumption) (by assumption) (by assumption) (bl_f (by assumption))).1
    | skip
  all_goals (try (first | exact (cS_g (by assumption) (by assumption) (by assumption) (by assumption) (bl_t (by assumption))).2 | exact (cS_g (by assumption) (by assumption) (by assumption) (by assumption) (bl_f (by assumption))).2))
  all_goals (try (have e := wd_n (show isG s.sg ⟨p, d, b, ns⟩ 1 [118, 97, 114] = false by assumption); simp only [e] at *))
  all_goals (try (have e := wd_y (show isG s.sg ⟨p, d, b, ns⟩ 1 [118, 97, 114] = true by assumption); simp only [e] at *))
  all_goals (try (have e := wd_n (show isG s.sg ⟨p, d, b, ns⟩ 1 [99, 108, 97, 115, 115] = false by assumption); simp only [e] at *))
  all_goals (try (have e := wd_y (show isG s.sg ⟨p, d, b, ns⟩ 1 [99, 108, 97, 115, 115] = true by assumption); simp only [e] at *))
  all_goals (try (have hw := wd_ok hx (show isG s.sg ⟨p, d, b, ns⟩ 1 [99, 108, 97, 115, 115] = true by assumption)))
  all_goals first
    | (show Nat; skip)
    | rfl
    | exact h1
    | omega
    | contradiction
    | exact m1_note hx (by assumption)
    | exact tx_ok h1 (by omega)
    | exact wd_ok hx (by assumption)
    | exact m1_var hx (by assumption) (by assumption) (by assumption)
    | exact mt_q hx (by assumption)
    | exact (okQ_D hw).1
    | exact (cS_tk hw).1
    | exact cS_0 hw
    | exact (okQ_D (cS_ok hw (by assumption))).1
    | exact (cS_sk hw (by assumption) (by assumption) (by assumption)).1
    | exact (cS_sk hw (by assumption) (by assumption) (by assumption)).2
    | exact sk_ok (okQ_D (cS_ok hw (by assumption))).1
    | exact fn_4 h1 (by assumption)
    | exact nod_bk BL_mem0 (by assumption)
    | exact nod_bk BL_mem0 (by assumption) (by assumption)
    | exact (cS_g (by assumption) (by assumption) (by assumption) (by assumption) (bl_t (by assumption))).1
    | exact (cS_g (by assumption) (by assumption) (by assumption) (by assumption) (bl_f (by assumption))).1
    | exact m1_c hx (by assumption) (by assumption) (by assumption) (cS_e hw (by assumption) (by assumption))
    | exact m1_c hx (by assumption) (by assumption) (by assumption) (cS_b hw (by assumption) (by assumption))
    | exact m1_m hx (by assumption) (by assumption) (by assumption) (mt_m hx (by assumption) (by assumption))
    | (have hq := vq_ln hs (show vlQ _ _ _ [] _ _ by assumption); (try simp only [room, List.length_append, List.length_cons, List.length_nil] at *); omega)
    | (have hq := cS_ks hw (show clS _ _ _ _ _ by assumption); (try simp only [room, List.length_append, List.length_cons, List.length_nil]); omega)
    | skip
  all_goals first
    | exact (cS_g (by assumption) (by assumption) (by assumption) (by assumption) (bl_t (by assumption))).2
    | exact (cS_g (by assumption) (by assumption) (by assumption) (by assumption) (bl_f (by assumption))).2
    | skip)
end Go.My
end
section
set_option linter.unusedVariables false
set_option linter.unusedSimpArgs false
namespace Go.My
open Go.Eng Go.Proofs
variable {G : GInv}
theorem in_n {c : UInt8} (h1 : isFst c = false) (h2 : isFig c = false) : isInn c = false := by simp [isInn, h1, h2]
theorem in_1 {c : UInt8} (h1 : isFst c = true) : isInn c = true := by simp [isInn, h1]
theorem in_2 {c : UInt8} (h1 : isFig c = true) : isInn c = true := by simp [isInn, h1]
theorem qlen_le2 {s : List UInt8} : qlen s ≤ s.length := by
  unfold qlen
  cases h : idxOf isQ (s.drop 1) with
  | none => simp
  | some i =>
    simp only
    split
    · have := idxOf_lt h; simp at this; omega
    · omega
theorem nlen_le {s : List UInt8} : nlen s ≤ s.length := by
  unfold nlen
  split
  · split
    · exact take_le
    · omega
  · omega
theorem mkAt_le {s : List UInt8} : (mkAt s).length ≤ 2 := by
  rw [mkAt_eq]
  split
  · simp; omega
  · split
    · simp; omega
    · simp
theorem sg_nt {x : List UInt8 × Int} (h0 : 0 ≤ x.2) (h1 : x.2 < x.1.length) : (nlen (x.1.drop x.2.toNat) : Int) ≤ x.1.length - x.2 ∧ (qlen (x.1.drop x.2.toNat) : Int) ≤ x.1.length - x.2 := by
  have a := @nlen_le (x.1.drop x.2.toNat); have b := @qlen_le2 (x.1.drop x.2.toNat)
  simp at a b; omega
theorem sr_nu2 {x : List UInt8 × Int} {i : Int} {c d e : UInt8} (h0 : 0 ≤ x.2) (hf : isFst c = false) (hc : x.1[x.2.toNat]? = some c) (hg : isFig d = true) (hd : x.1[x.2.toNat]? = some d) (h : rwI isFig x i) (hz : isFig e = false) (he : x.1[i.toNat]? = some e) :
    (i - x.2 > 12 → sgR x 0 [] 0 false 0) ∧ (¬ i - x.2 > 12 → sgR x 2 (List.drop (Int.toNat x.2) (List.take (Int.toNat i) x.1)) x.2 false (i - x.2)) := by
  rw [hc] at hd; cases hd
  exact sr_nu h0 hc hf hg h (.inr ⟨_, he, hz⟩)
theorem ssJ_sg {t : List UInt8} {i br : Int} {l : List Sg} {n : Nat} {c c2 : UInt8} {k p m : Int} {tx : List UInt8} {b : Bool} (h32 : (c.toNat : Int) ≠ 32) (hc : t[i.toNat]? = some c) (h10 : (c2.toNat : Int) ≠ 10) (hc2 : t[i.toNat]? = some c2) (h : sgJ t i br l n) (hi : i < t.length) (hs : sgR (t, i) k tx p b m) (hm : m ≠ 0) :
    sgJ t (i + m) 0 (l ++ [⟨k, tx, p, decide (br > 1)⟩]) (n - 1) ∧ n - 1 < n := by
  rw [hc] at hc2; cases hc2
  rcases hs with ⟨h1, ⟨rfl, rfl, rfl, rfl⟩, rfl⟩ | hs
  · exact sgJ_sg hc h hi (by omega) (by omega) h1
  · exact (hm hs.2).elim
theorem ssJ_no {t : List UInt8} {i br : Int} {l : List Sg} {n : Nat} {c c2 : UInt8} {k p m : Int} {tx : List UInt8} {b : Bool} (h32 : (c.toNat : Int) ≠ 32) (hc : t[i.toNat]? = some c) (h10 : (c2.toNat : Int) ≠ 10) (hc2 : t[i.toNat]? = some c2) (h : sgJ t i br l n) (hi : i < t.length) (hs : sgR (t, i) k tx p b m) (hm : m = 0) : sgnsOf t = none := by
  rw [hc] at hc2; cases hc2
  rcases hs with ⟨h1, _, h2⟩ | hs
  · have a := (sgAt_ok h1).1; rw [hm] at h2; rw [← h2] at a; omega
  · exact sgJ_no hc h hi (by omega) (by omega) hs.1
theorem ssJ_n {t : List UInt8} {i br : Int} {l : List Sg} {n : Nat} {k p m : Int} {tx : List UInt8} {b : Bool} (h : sgJ t i br l n) (hs : sgR (t, i) k tx p b m) : 0 ≤ m ∧ m ≤ t.length - i := by
  rcases hs with ⟨h1, _, h2⟩ | hs
  · have a := sgJ_sz h h1; simp only at h2; omega
  · have := sgJ_n h; omega
attribute [local irreducible] rwI sgR sgAt nlen qlen mkAt
def s_sSign  : Sig := { X := List UInt8 × Int, args := fun x => [.str x.1, .int .i64 x.2], pre := fun x => 0 ≤ x.2 ∧ x.2 < x.1.length ∧ x.1.length < 2 ^ 62, Y := Int × List UInt8 × Int × Bool × Int, post := fun x y => sgR x y.1 y.2.1 y.2.2.1 y.2.2.2.1 y.2.2.2.2, res := fun x y => .tup [.agg [.int .i64 y.1, .str y.2.1, .int .i64 y.2.2.1, .bool y.2.2.2.1], .int .i64 y.2.2.2.2], outs := fun x y => [.top, .top], keep := false }
def i_sSign  (x : List UInt8 × Int) : LS := { ι := Int, inv := fun i => rwI isInn x i, regs := fun i => [(0, .str x.1), (1, .int .i64 x.2), (4, .box 0 [.int .i64 0, .str [], .int .i64 0, .bool false]), (6, .int .i64 i)], als := [], meas := fun i => x.1.length - i.toNat }
def i1_sSign  (x : List UInt8 × Int) : LS := { ι := Int, inv := fun i => rwI isFig x i, regs := fun i => [(0, .str x.1), (1, .int .i64 x.2), (4, .box 0 [.int .i64 0, .str [], .int .i64 0, .bool false]), (6, .int .i64 i)], als := [], meas := fun i => x.1.length - i.toNat }
theorem sSign_ok  : Contract G Tryz.prog 45 s_sSign :=
  vcFun_okP [(76, 0, s_l04Note), (77, 0, s_sTrim), (78, 0, s_l04First), (79, 0, s_l04Figure), (80, 0, s_l04Quoted), (81, 0, s_sMark)] [] false (fun x => [(6, i_sSign  x), (12, i1_sSign  x)]) Tryz.func45 rfl (by decide) ⟨l04Note_ok, sTrim_ok, l04First_ok, l04Figure_ok, l04Quoted_ok, sMark_ok, trivial⟩ (fun (x : List UInt8 × Int) => (∀ (y : Int × List UInt8 × Int × Bool × Int), sgR x y.1 y.2.1 y.2.2.1 y.2.2.2.1 y.2.2.2.2 → ((True ∧ True ∧ True ∧ True ∧ True) ∧ True ∧ True) ∧ True ∧ True ∧ True) ∧ cA s_l04Note [.str x.1, .int .i64 x.2] fun x_1 y => bcase (decide ((↑(nlen (List.drop (Int.toNat x_1.2) x_1.1)) : Int) > (0 : Int))) (inR IntKind.i64 (x.2 + (↑(nlen (List.drop (Int.toNat x_1.2) x_1.1)) : Int)) ∧ ((0 : Int) ≤ x.2 ∧ x.2 ≤ x.2 + (↑(nlen (List.drop (Int.toNat x_1.2) x_1.1)) : Int) ∧ x.2 + (↑(nlen (List.drop (Int.toNat x_1.2) x_1.1)) : Int) ≤ (↑(List.length x.1) : Int)) ∧ cA s_sTrim [.str (List.drop (Int.toNat x.2) (List.take (Int.toNat (x.2 + (↑(nlen (List.drop (Int.toNat x_1.2) x_1.1)) : Int))) x.1))] fun x_2 y => ∃ (y : Int × List UInt8 × Int × Bool × Int), sgR x y.1 y.2.1 y.2.2.1 y.2.2.2.1 y.2.2.2.2 ∧ (5 : Int) = y.1 ∧ trimR x_2 = y.2.1 ∧ x.2 = y.2.2.1 ∧ false = y.2.2.2.1 ∧ (↑(nlen (List.drop (Int.toNat x_1.2) x_1.1)) : Int) = y.2.2.2.2 ∧ True) (((0 : Int) ≤ x.2 ∧ x.2 < (↑(List.length x.1) : Int)) ∧ ∀ (c : UInt8), x.1[Int.toNat x.2]? = some c → cA s_l04First [AV.int IntKind.u8 (↑(UInt8.toNat c) : Int)] fun x_2 y => bcase (isFst x_2) (eA (i_sSign x) [.str x.1, .int .i64 x.2, .box 0 [.int .i64 (0 : Int), .str #[].toList, .int .i64 (0 : Int), .bool false], .int .i64 x.2] ∧ ∀ (i : Int), rwI isInn x i → bcase (decide (i < (↑(List.length x.1) : Int))) (((0 : Int) ≤ i ∧ i < (↑(List.length x.1) : Int)) ∧ ∀ (c : UInt8), x.1[Int.toNat i]? = some c → cA s_l04First [AV.int IntKind.u8 (↑(UInt8.toNat c) : Int)] fun x_3 y => bcase (isFst x_3) (inR IntKind.i64 (i + (1 : Int)) ∧ eN (i_sSign x) i [.str x.1, .int .i64 x.2, .box 0 [.int .i64 (0 : Int), .str [], .int .i64 (0 : Int), .bool false], .int .i64 (i + (1 : Int))]) (((0 : Int) ≤ i ∧ i < (↑(List.length x.1) : Int)) ∧ ∀ (c : UInt8), x.1[Int.toNat i]? = some c → cA s_l04Figure [AV.int IntKind.u8 (↑(UInt8.toNat c) : Int)] fun x_4 y => bcase (isFig x_4) (inR IntKind.i64 (i + (1 : Int)) ∧ eN (i_sSign x) i [.str x.1, .int .i64 x.2, .box 0 [.int .i64 (0 : Int), .str [], .int .i64 (0 : Int), .bool false], .int .i64 (i + (1 : Int))]) (inR IntKind.i64 (i - x.2) ∧ bcase (decide (i - x.2 > (30 : Int))) (∃ (y : Int × List UInt8 × Int × Bool × Int), sgR x y.1 y.2.1 y.2.2.1 y.2.2.2.1 y.2.2.2.2 ∧ (0 : Int) = y.1 ∧ #[].toList = y.2.1 ∧ (0 : Int) = y.2.2.1 ∧ false = y.2.2.2.1 ∧ (0 : Int) = y.2.2.2.2 ∧ True) (((0 : Int) ≤ x.2 ∧ x.2 ≤ i ∧ i ≤ (↑(List.length x.1) : Int)) ∧ inR IntKind.i64 (i - x.2) ∧ ∃ (y : Int × List UInt8 × Int × Bool × Int), sgR x y.1 y.2.1 y.2.2.1 y.2.2.2.1 y.2.2.2.2 ∧ (1 : Int) = y.1 ∧ List.drop (Int.toNat x.2) (List.take (Int.toNat i) x.1) = y.2.1 ∧ x.2 = y.2.2.1 ∧ false = y.2.2.2.1 ∧ i - x.2 = y.2.2.2.2 ∧ True)))) (inR IntKind.i64 (i - x.2) ∧ bcase (decide (i - x.2 > (30 : Int))) (∃ (y : Int × List UInt8 × Int × Bool × Int), sgR x y.1 y.2.1 y.2.2.1 y.2.2.2.1 y.2.2.2.2 ∧ (0 : Int) = y.1 ∧ #[].toList = y.2.1 ∧ (0 : Int) = y.2.2.1 ∧ false = y.2.2.2.1 ∧ (0 : Int) = y.2.2.2.2 ∧ True) (((0 : Int) ≤ x.2 ∧ x.2 ≤ i ∧ i ≤ (↑(List.length x.1) : Int)) ∧ inR IntKind.i64 (i - x.2) ∧ ∃ (y : Int × List UInt8 × Int × Bool × Int), sgR x y.1 y.2.1 y.2.2.1 y.2.2.2.1 y.2.2.2.2 ∧ (1 : Int) = y.1 ∧ List.drop (Int.toNat x.2) (List.take (Int.toNat i) x.1) = y.2.1 ∧ x.2 = y.2.2.1 ∧ false = y.2.2.2.1 ∧ i - x.2 = y.2.2.2.2 ∧ True))) (((0 : Int) ≤ x.2 ∧ x.2 < (↑(List.length x.1) : Int)) ∧ ∀ (c : UInt8), x.1[Int.toNat x.2]? = some c → cA s_l04Figure [AV.int IntKind.u8 (↑(UInt8.toNat c) : Int)] fun x_3 y => bcase (isFig x_3) (eA (i1_sSign x) [.str x.1, .int .i64 x.2, .box 0 [.int .i64 (0 : Int), .str #[].toList, .int .i64 (0 : Int), .bool false], .int .i64 x.2] ∧ ∀ (i : Int), rwI isFig x i → bcase (decide (i < (↑(List.length x.1) : Int))) (((0 : Int) ≤ i ∧ i < (↑(List.length x.1) : Int)) ∧ ∀ (c : UInt8), x.1[Int.toNat i]? = some c → cA s_l04Figure [AV.int IntKind.u8 (↑(UInt8.toNat c) : Int)] fun x_4 y => bcase (isFig x_4) (inR IntKind.i64 (i + (1 : Int)) ∧ eN (i1_sSign x) i [.str x.1, .int .i64 x.2, .box 0 [.int .i64 (0 : Int), .str [], .int .i64 (0 : Int), .bool false], .int .i64 (i + (1 : Int))]) (inR IntKind.i64 (i - x.2) ∧ bcase (decide (i - x.2 > (12 : Int))) (∃ (y : Int × List UInt8 × Int × Bool × Int), sgR x y.1 y.2.1 y.2.2.1 y.2.2.2.1 y.2.2.2.2 ∧ (0 : Int) = y.1 ∧ #[].toList = y.2.1 ∧ (0 : Int) = y.2.2.1 ∧ false = y.2.2.2.1 ∧ (0 : Int) = y.2.2.2.2 ∧ True) (((0 : Int) ≤ x.2 ∧ x.2 ≤ i ∧ i ≤ (↑(List.length x.1) : Int)) ∧ inR IntKind.i64 (i - x.2) ∧ ∃ (y : Int × List UInt8 × Int × Bool × Int), sgR x y.1 y.2.1 y.2.2.1 y.2.2.2.1 y.2.2.2.2 ∧ (2 : Int) = y.1 ∧ List.drop (Int.toNat x.2) (List.take (Int.toNat i) x.1) = y.2.1 ∧ x.2 = y.2.2.1 ∧ false = y.2.2.2.1 ∧ i - x.2 = y.2.2.2.2 ∧ True))) (inR IntKind.i64 (i - x.2) ∧ bcase (decide (i - x.2 > (12 : Int))) (∃ (y : Int × List UInt8 × Int × Bool × Int), sgR x y.1 y.2.1 y.2.2.1 y.2.2.2.1 y.2.2.2.2 ∧ (0 : Int) = y.1 ∧ #[].toList = y.2.1 ∧ (0 : Int) = y.2.2.1 ∧ false = y.2.2.2.1 ∧ (0 : Int) = y.2.2.2.2 ∧ True) (((0 : Int) ≤ x.2 ∧ x.2 ≤ i ∧ i ≤ (↑(List.length x.1) : Int)) ∧ inR IntKind.i64 (i - x.2) ∧ ∃ (y : Int × List UInt8 × Int × Bool × Int), sgR x y.1 y.2.1 y.2.2.1 y.2.2.2.1 y.2.2.2.2 ∧ (2 : Int) = y.1 ∧ List.drop (Int.toNat x.2) (List.take (Int.toNat i) x.1) = y.2.1 ∧ x.2 = y.2.2.1 ∧ false = y.2.2.2.1 ∧ i - x.2 = y.2.2.2.2 ∧ True))) (((0 : Int) ≤ x.2 ∧ x.2 < (↑(List.length x.1) : Int)) ∧ ∀ (c : UInt8), x.1[Int.toNat x.2]? = some c → bcase ((↑(UInt8.toNat c) : Int) == (39 : Int)) (cA s_l04Quoted [.str x.1, .int .i64 x.2] fun x_4 y => inR IntKind.i64 (x.2 + (↑(qlen (List.drop (Int.toNat x_4.2) x_4.1)) : Int)) ∧ ((0 : Int) ≤ x.2 ∧ x.2 ≤ x.2 + (↑(qlen (List.drop (Int.toNat x_4.2) x_4.1)) : Int) ∧ x.2 + (↑(qlen (List.drop (Int.toNat x_4.2) x_4.1)) : Int) ≤ (↑(List.length x.1) : Int)) ∧ ∃ (y : Int × List UInt8 × Int × Bool × Int), sgR x y.1 y.2.1 y.2.2.1 y.2.2.2.1 y.2.2.2.2 ∧ (3 : Int) = y.1 ∧ List.drop (Int.toNat x.2) (List.take (Int.toNat (x.2 + (↑(qlen (List.drop (Int.toNat x_4.2) x_4.1)) : Int))) x.1) = y.2.1 ∧ x.2 = y.2.2.1 ∧ false = y.2.2.2.1 ∧ (↑(qlen (List.drop (Int.toNat x_4.2) x_4.1)) : Int) = y.2.2.2.2 ∧ True) (cA s_sMark [.str x.1, .int .i64 x.2] fun x_4 y => ∃ (y : Int × List UInt8 × Int × Bool × Int), sgR x y.1 y.2.1 y.2.2.1 y.2.2.2.1 y.2.2.2.2 ∧ (4 : Int) = y.1 ∧ mkAt (List.drop (Int.toNat x_4.2) x_4.1) = y.2.1 ∧ x.2 = y.2.2.1 ∧ false = y.2.2.2.1 ∧ (↑(List.length (mkAt (List.drop (Int.toNat x_4.2) x_4.1))) : Int) = y.2.2.2.2 ∧ True))))) (fun x => by kernel_rfl) fun (x : List UInt8 × Int) (hx : 0 ≤ x.2 ∧ x.2 < x.1.length ∧ x.1.length < 2 ^ 62) => (by
  dsimp only [cA, eA, eN, i1_sSign, i_sSign, s_l04Figure, s_l04First, s_l04Note, s_l04Quoted, s_sMark, s_sTrim, hndL, hnd1, mvL, lnL, mvE, lnE, sndL]
  obtain ⟨h1, h2, h3⟩ := hx
  have hn := sg_nt h1 h2
  (repeat' first | (with_reducible first | rfl | exact True.intro | apply inR_i64 | apply And.intro | ((first | apply bcase_dec | apply bcase_bne | apply bcase_beq | apply bcase_not) <;> intro _)) | (apply bcase_intro <;> intro _) | apply sl_eq | refine ex_flip () ?_ ?_ | ((first | apply ex_flip10 | apply ex_flip9 | apply ex_flip8 | apply ex_flip7 | apply ex_flip6 | apply ex_flip5 | apply ex_flip4 | apply ex_flip3 | apply ex_flip2) <;> try dsimp only) | apply ex_flip | (refine Prod.forall.2 ?_; intro _; try dsimp only) | (intro _; try dsimp only))
  all_goals (try ((repeat (rename x.1[_]? = some _ => hq; revert hq; rename x.1[_]? = some _ => hr; intro hq; rw [hr] at hq; cases hq))))
  all_goals first
    | rfl
    | omega
    | exact sr_note h1 (by assumption)
    | exact rw_0 (by omega)
    | exact rw_n h1 (by assumption) (by assumption) (by assumption) (in_1 (by assumption))
    | exact rw_n h1 (by assumption) (by assumption) (by assumption) (in_2 (by assumption))
    | exact rw_n h1 (by assumption) (by assumption) (by assumption) (by assumption)
    | exact (sr_nm h1 (by assumption) (by assumption) (by assumption) (.inl (by assumption))).1 (by assumption)
    | exact (sr_nm h1 (by assumption) (by assumption) (by assumption) (.inl (by assumption))).2 (by assumption)
    | exact (sr_nm h1 (by assumption) (by assumption) (by assumption) (.inr ⟨_, by assumption, in_n (by assumption) (by assumption)⟩)).1 (by assumption)
    | exact (sr_nm h1 (by assumption) (by assumption) (by assumption) (.inr ⟨_, by assumption, in_n (by assumption) (by assumption)⟩)).2 (by assumption)
    | exact (sr_nu h1 (by assumption) (by assumption) (by assumption) (by assumption) (.inl (by assumption))).1 (by assumption)
    | exact (sr_nu h1 (by assumption) (by assumption) (by assumption) (by assumption) (.inl (by assumption))).2 (by assumption)
    | exact (sr_nu h1 (by assumption) (by assumption) (by assumption) (by assumption) (.inr ⟨_, by assumption, by assumption⟩)).1 (by assumption)
    | exact (sr_nu h1 (by assumption) (by assumption) (by assumption) (by assumption) (.inr ⟨_, by assumption, by assumption⟩)).2 (by assumption)
    | exact (sr_nu2 h1 (by assumption) (by assumption) (by assumption) (by assumption) (by assumption) (by assumption) (by assumption)).1 (by assumption)
    | exact (sr_nu2 h1 (by assumption) (by assumption) (by assumption) (by assumption) (by assumption) (by assumption) (by assumption)).2 (by assumption)
    | exact sr_tx h1 (by assumption) (by assumption) (by assumption) (by assumption)
    | exact sr_mk h1 (by assumption) (by assumption) (by assumption) (by assumption) (by assumption)
    | (have hq := rw_b (show rwI _ _ _ by assumption); (try simp only [i64max]); omega)
    | (have hq := @mkAt_le (x.1.drop x.2.toNat); (try simp only [i64max]); omega)
    | (simp only [List.length_drop, List.length_take]; omega)
    | skip)
attribute [local irreducible] sgJ sgnsOf
def s_sSigns  : Sig := { X := List UInt8, args := fun x => [.str x], pre := fun x => x.length < 2 ^ 62, Y := List Sg × Int, post := fun x y => sgQ x y.1, res := fun x y => .tup [sgs y.1, .int .i64 y.2, .bool (sgnsOf x).isSome], outs := fun x y => [.top], keep := true }
def i_sSigns  (x : List UInt8) : LS := { ι := Int × Int × List Sg × Nat, inv := fun i => sgJ x i.1 i.2.1 i.2.2.1 i.2.2.2, regs := fun i => [(0, .str x), (5, osgs i.2.2.1), (6, .int .i64 i.1), (7, .int .i64 i.2.1)], als := [], meas := fun i => i.2.2.2 }
theorem sSigns_ok  : Contract G Tryz.prog 18 s_sSigns :=
  vcFun_okP [(45, 0, s_sSign)] [(36, ⟨Sg,sgA⟩)] false (fun x => [(6, i_sSigns  x)]) Tryz.func18 rfl (by decide) ⟨sSign_ok, trivial⟩ (fun (x : List UInt8) => True ∧ bcase (decide ((↑(List.length x) : Int) > (3000 : Int))) (rA s_sSigns x [.tup [osgs [], .int .i64 (3000 : Int), .bool false], .top]) (eA (i_sSigns x) [.str x, osgs [], .int .i64 (0 : Int), .int .i64 (0 : Int)] ∧ ∀ (i : Int × Int × List Sg × Nat), sgJ x i.1 i.2.1 i.2.2.1 i.2.2.2 → bcase (decide (i.1 < (↑(List.length x) : Int))) (((0 : Int) ≤ i.1 ∧ i.1 < (↑(List.length x) : Int)) ∧ ∀ (c : UInt8), x[Int.toNat i.1]? = some c → bcase ((↑(UInt8.toNat c) : Int) == (32 : Int)) (inR IntKind.i64 (i.1 + (1 : Int)) ∧ eN (i_sSigns x) i [.str x, osgs i.2.2.1, .int .i64 (i.1 + (1 : Int)), .int .i64 i.2.1]) (((0 : Int) ≤ i.1 ∧ i.1 < (↑(List.length x) : Int)) ∧ ∀ (c : UInt8), x[Int.toNat i.1]? = some c → bcase ((↑(UInt8.toNat c) : Int) == (10 : Int)) (inR IntKind.i64 (i.2.1 + (1 : Int)) ∧ inR IntKind.i64 (i.1 + (1 : Int)) ∧ eN (i_sSigns x) i [.str x, osgs i.2.2.1, .int .i64 (i.1 + (1 : Int)), .int .i64 (i.2.1 + (1 : Int))]) (cA s_sSign [.str x, .int .i64 i.1] fun x_1 y => bcase (y.2.2.2.2 == (0 : Int)) (rA s_sSigns x [.tup [osgs [], .int .i64 i.1, .bool false], .top]) (∃ (x_2 : Sg), y.1 = x_2.kind ∧ y.2.1 = x_2.text ∧ y.2.2.1 = x_2.pos ∧ decide (i.2.1 > (1 : Int)) = x_2.blank ∧ ∃ (zs : List Sg), osgs [x_2] = osgs zs ∧ leafy sgA ∧ room (List.length i.2.2.1 + List.length zs) (40 : Nat) ∧ inR IntKind.i64 (i.1 + y.2.2.2.2) ∧ eN (i_sSigns x) i [.str x, osgs (i.2.2.1 ++ zs), .int .i64 (i.1 + y.2.2.2.2), .int .i64 (0 : Int)])))) (rA s_sSigns x [.tup [osgs i.2.2.1, .int .i64 (0 : Int), .bool true], .top]))) (fun x => by kernel_rfl) fun (x : List UInt8) (hx : x.length < 2 ^ 62) => (by
  dsimp only [cA, eA, eN, i_sSigns, osgs, rA, s_sSign, s_sSigns, sgA_e, sgs, hndL, hnd1, mvL, lnL, mvE, lnE, sndL]
  have hx : x.length < 2 ^ 62 := hx
  (repeat' first | (with_reducible first | rfl | exact True.intro | apply inR_i64 | apply And.intro | ((first | apply bcase_dec | apply bcase_bne | apply bcase_beq | apply bcase_not) <;> intro _)) | (apply bcase_intro <;> intro _) | apply sl_eq | refine ex_flip () ?_ ?_ | ((first | apply ex_flip10 | apply ex_flip9 | apply ex_flip8 | apply ex_flip7 | apply ex_flip6 | apply ex_flip5 | apply ex_flip4 | apply ex_flip3 | apply ex_flip2) <;> try dsimp only) | apply ex_flip | (refine Prod.forall.2 ?_; intro _; try dsimp only) | (intro _; try dsimp only))
  all_goals first
    | (show Nat; skip)
    | rfl
    | exact sgJ_0 (by assumption)
    | exact (sgQ_none (sgQ_long (by assumption))).2
    | exact (sgQ_none (sgQ_long (by assumption))).1.symm
    | exact (sgJ_sp (by assumption) (by assumption) (by assumption) (by omega)).1
    | exact (sgJ_nl (by assumption) (by assumption) (by assumption) (by omega)).1
    | exact (ssJ_sg (by assumption) (by assumption) (by assumption) (by assumption) (by assumption) (by assumption) (by assumption) (by assumption)).1
    | exact (sgQ_none (ssJ_no (by assumption) (by assumption) (by assumption) (by assumption) (by assumption) (by assumption) (by assumption) (by assumption))).2
    | exact (sgQ_none (ssJ_no (by assumption) (by assumption) (by assumption) (by assumption) (by assumption) (by assumption) (by assumption) (by assumption))).1.symm
    | exact (sgJ_end (by assumption) (by assumption)).2
    | exact (sgJ_end (by assumption) (by assumption)).1.symm
    | (have hq := sgJ_n (show sgJ _ _ _ _ _ by assumption); (try simp only [i64max]); omega)
    | (have hj := (show sgJ _ _ _ _ _ by assumption); have hq := sgJ_n hj; have hz := ssJ_n hj (by assumption); (try simp only [i64max]); omega)
    | (have hq := sgJ_n (show sgJ _ _ _ _ _ by assumption); (try simp only [room, List.length_append, List.length_cons, List.length_nil]); omega)
    | (simp [room]; done)
    | skip
  all_goals first
    | exact (sgJ_sp (by assumption) (by assumption) (by assumption) (by omega)).2
    | exact (sgJ_nl (by assumption) (by assumption) (by assumption) (by omega)).2
    | exact (ssJ_sg (by assumption) (by assumption) (by assumption) (by assumption) (by assumption) (by assumption) (by assumption) (by assumption)).2
    | rfl
    | skip)
end Go.My
end
section
set_option linter.unusedVariables false
set_option linter.unusedSimpArgs false
namespace Go.My
open Go.Eng Go.Proofs
variable {G : GInv}
theorem trim_pre {s : List UInt8} : trimR s <+: s := by
  have h := List.dropWhile_suffix (fun c : UInt8 => decide (c.toNat = 32)) (l := s.reverse)
  unfold trimR
  rw [← List.reverse_suffix, List.reverse_reverse]; exact h
theorem hd_pre {c : UInt8} {a s t : List UInt8} (h : t <+: c :: s) (ht : t = a) (ha : a ≠ []) : a.head? = some c := by
  subst ht
  match t with
  | [] => exact (ha rfl).elim
  | d :: r =>
    obtain ⟨k, hk⟩ := h
    simp at hk
    simp [hk.1]
theorem sgAt_M {s : List UInt8} (h : (sgAt s).ok = true) (ht : (sgAt s).text = [41] ∨ (sgAt s).text = [61, 62] ∨ (sgAt s).text = [44]) : (sgAt s).kind = 4 := by
  match s with
  | [] => cases h
  | b :: s =>
    have key : ∀ t : List UInt8, t <+: b :: s → (t = [41] ∨ t = [61, 62] ∨ t = [44]) → b = 41 ∨ b = 61 ∨ b = 44 := by
      intro t hp ht
      rcases ht with ht | ht | ht
      · have := hd_pre hp ht (by simp); simp at this; exact .inl this.symm
      · have := hd_pre hp ht (by simp); simp at this; exact .inr (.inl this.symm)
      · have := hd_pre hp ht (by simp); simp at this; exact .inr (.inr this.symm)
    unfold sgAt at h ht ⊢
    simp only at h ht ⊢
    split
    · rename_i hb
      rw [if_pos hb] at ht
      rcases key _ (List.takeWhile_prefix _) ht with rfl | rfl | rfl <;> exact absurd hb (by decide)
    · rename_i hb
      rw [if_neg hb] at h ht
      split
      · rename_i hb2
        rw [if_pos hb2] at ht
        rcases key _ (List.takeWhile_prefix _) ht with rfl | rfl | rfl <;> exact absurd hb2 (by decide)
      · rename_i hb2
        rw [if_neg hb2] at h ht
        split
        · rename_i hb3
          rw [if_pos hb3] at ht h
          simp only at ht h
          have hp : (quoted (b :: s)).1 <+: b :: s := by
            unfold quoted; split
            · exact List.nil_prefix
            · exact List.take_prefix _ _
          rcases key _ hp ht with rfl | rfl | rfl <;> exact absurd hb3 (by decide)
        · rename_i hb3
          rw [if_neg hb3] at h ht
          split
          · rename_i hb4
            rw [if_pos hb4] at ht
            have hb5 : b = 47 := by
              cases s with
              | nil => simp at hb4
              | cons c s => simp at hb4; exact hb4.1
            rcases key _ (trim_pre.trans (List.takeWhile_prefix _)) ht with rfl | rfl | rfl <;> exact absurd hb5 (by decide)
          · rename_i hb4
            rw [if_neg hb4] at h
            split
            · rfl
            · rename_i hb5
              rw [if_neg hb5] at h
              split
              · rfl
              · rename_i hb6
                rw [if_neg hb6] at h; cases h
theorem sgnF_M {t : List UInt8} : ∀ (n : Nat) (i br : Int) (l : List Sg), sgnF t n i br = some l → sgM l
  | 0, _, _, _, h => by cases h
  | n + 1, i, br, l, h => by
    rw [sgnF] at h
    split at h
    · simp at h; subst h; intro e he; simp at he
    · split at h
      · exact sgnF_M n _ _ _ h
      · split at h
        · exact sgnF_M n _ _ _ h
        · split at h
          · rename_i hok
            rw [Option.map_eq_some_iff] at h
            obtain ⟨l', h1, rfl⟩ := h
            intro e he ht
            simp only [List.mem_cons] at he
            rcases he with rfl | he
            · exact sgAt_M hok ht
            · exact sgnF_M n _ _ _ h1 e he ht
          · cases h
theorem sgns_M {t : List UInt8} {l : List Sg} (h : sgnsOf t = some l) : sgM l := by
  rw [sgnsOf] at h
  split at h
  · cases h
  · exact sgnF_M _ _ _ _ h
def frI (t : List UInt8) (l : List Sg) (y : Gs) (ks : List Int) (ms : List (Int × Int)) (N : Nat) : Prop := (sgnsOf t = some l ∧ sgB l) ∧ filI l y ks ms N
theorem fr_0 {t : List UInt8} {l : List Sg} (h : sgQ t l) (hn : (sgnsOf t).isSome = true) : frI t l ⟨0, 0, false, []⟩ [] [] (l.length + 1) := ⟨rs_sg h hn, fl_0⟩
theorem fr_ok {t : List UInt8} {s : ST} {y : Gs} {ks : List Int} {ms : List (Int × Int)} {N : Nat} (h : frI t s.sg y ks ms N) : okQ s y := ⟨fl_ok h.1.2 h.2, sgns_M h.1.1⟩
theorem fr_g {t : List UInt8} {l : List Sg} {y : Gs} {ks : List Int} {ms : List (Int × Int)} {N : Nat} {b : Bool} {z : Int × Gs} (h : frI t l y ks ms N) (hb : y.bad = false) (hl : y.pos < l.length) (hz : nodP l y (memR l false) z) (e : b = (blG l y && decide (0 < (ks.length : Int)))) :
    frI t l (gBl z.2 z.1 b) (ks ++ [z.1]) (ms ++ [(y.pos, (gBl z.2 z.1 b).pos)]) (N - 1) ∧ N - 1 < N := by
  rw [blG_pk hb] at e
  have hz2 : nodP l y (memR l b) (z.1, gBl z.2 z.1 b) := nod_bl BL_mem hz
  obtain ⟨a, c⟩ := fl_go h.2 hb hl hz2 e
  exact ⟨⟨h.1, a⟩, c⟩
theorem fr_ks {t : List UInt8} {l : List Sg} {y : Gs} {ks : List Int} {ms : List (Int × Int)} {N : Nat} (h : frI t l y ks ms N) : ks.length ≤ 3001 ∧ 0 ≤ y.pos ∧ y.pos ≤ l.length := by
  have := fl_ks h.1.2 h.2; omega
def frE (l : List Sg) (y : Gs) : Prop := y.bad = true ∨ ¬ y.pos < l.length
theorem frE_b {l : List Sg} {y : Gs} (h : y.bad = true) : frE l y := .inl h
theorem frE_e {l : List Sg} {y : Gs} (h : ¬ y.pos < l.length) : frE l y := .inr h
theorem okN_0 : okNds [] := ⟨by simp, by simp⟩
theorem fr_q {t : List UInt8} {l : List Sg} {y : Gs} {ks : List Int} {ms : List (Int × Int)} {N : Nat} (h : frI t l y ks ms N) : sgQ t l ∧ (sgnsOf t).isSome = true := ⟨.inl h.1, by rw [h.1.1]; rfl⟩
theorem fr_bad {t : List UInt8} {l : List Sg} {y : Gs} {ks : List Int} {ms : List (Int × Int)} {N : Nat} (h : frI t l y ks ms N) (he : frE l y) (hb : (gAdd y ⟨22, [], ks, false⟩).bad = true) : readT t = none := rq_b (rs_bad (fr_q h).1 (fr_q h).2 ⟨h.2, he⟩ hb) hb
theorem fr_tr {t : List UInt8} {l : List Sg} {y : Gs} {ks : List Int} {ms : List (Int × Int)} {N : Nat} (h : frI t l y ks ms N) (he : frE l y) (hb : (gAdd y ⟨22, [], ks, false⟩).bad = false) :
    (treeOk (gAdd y ⟨22, [], ks, false⟩).nodes = false → readT t = none) ∧ (treeOk (gAdd y ⟨22, [], ks, false⟩).nodes = true → readT t = some (gAdd y ⟨22, [], ks, false⟩).nodes) := by
  have a := rs_tr (fr_q h).1 (fr_q h).2 ⟨h.2, he⟩ hb
  refine ⟨fun h2 => rq_b a (by simp only [outR, h2]; rfl), fun h2 => (rq_g a (by simp only [outR, h2]; rfl)).1⟩
theorem fr_nds {t : List UInt8} {l : List Sg} {y : Gs} {ks : List Int} {ms : List (Int × Int)} {N : Nat} (h : frI t l y ks ms N) : okNds (gAdd y ⟨22, [], ks, false⟩).nodes ∧ (gAdd y ⟨22, [], ks, false⟩).nodes.length ≤ 1073741824 ∧ 0 ≤ (gAdd y ⟨22, [], ks, false⟩).pos := by
  have a := add_ok h.2.1 (rs_nodB h.1.2 h.2)
  have b := ok_nds a
  exact ⟨b.1, by omega, a.1.1⟩
theorem rd_sg {t : List UInt8} (h : (sgnsOf t).isSome = false) : readT t = none := by
  rw [readT]
  cases hs : sgnsOf t with
  | none => rfl
  | some l => rw [hs] at h; cases h
theorem ex_sq5 {T0 T1 T2 T3 : Type} {p q : ST × T0 × T1 × T2 × T3 → Prop} (a : List Sg) (v0 : T0) (v1 : T1) (v2 : T2) (v3 : T3) (h2 : q (⟨a, 0, []⟩, v0, v1, v2, v3)) (h1 : p (⟨a, 0, []⟩, v0, v1, v2, v3)) : ∃ x, p x ∧ q x := ⟨_, h1, h2⟩
theorem ex_sq7 {T0 T1 T2 T3 T4 T5 : Type} {p q : ST × T0 × T1 × T2 × T3 × T4 × T5 → Prop} (a : List Sg) (v0 : T0) (v1 : T1) (v2 : T2) (v3 : T3) (v4 : T4) (v5 : T5) (h2 : q (⟨a, 0, []⟩, v0, v1, v2, v3, v4, v5)) (h1 : p (⟨a, 0, []⟩, v0, v1, v2, v3, v4, v5)) : ∃ x, p x ∧ q x := ⟨_, h1, h2⟩
theorem ex_sq8 {T0 T1 T2 T3 T4 T5 T6 : Type} {p q : ST × T0 × T1 × T2 × T3 × T4 × T5 × T6 → Prop} (a : List Sg) (v0 : T0) (v1 : T1) (v2 : T2) (v3 : T3) (v4 : T4) (v5 : T5) (v6 : T6) (h2 : q (⟨a, 0, []⟩, v0, v1, v2, v3, v4, v5, v6)) (h1 : p (⟨a, 0, []⟩, v0, v1, v2, v3, v4, v5, v6)) : ∃ x, p x ∧ q x := ⟨_, h1, h2⟩
attribute [local irreducible] frI frE gBl blG gAdd gAddK gsOk nodP memR readT sgnsOf treeOk sgM okQ
def s_sRead  : Sig := { X := List UInt8, args := fun x => [.str x], pre := fun x => x.length < 2 ^ 62, Y := List Nd × Int, post := fun x y => y.1 = (readT x).getD [] ∧ okNds y.1, res := fun x y => .tup [nds y.1, .int .i64 y.2, .bool (readT x).isSome], outs := fun x y => [.top], keep := true }
def i_sRead  (x : List UInt8) : LS := { ι := List Sg × Int × Int × Bool × List Nd × List Int × List (Int × Int) × Nat, inv := fun i => frI x i.1 (iF i.2) i.2.2.2.2.2.1 i.2.2.2.2.2.2.1 i.2.2.2.2.2.2.2, regs := fun i => [(0, .str x), (5, onds []), (6, sgs i.1), (9, srd ⟨i.1, 0, []⟩ (iF i.2)), (10, oints i.2.2.2.2.2.1)], als := [], meas := fun i => i.2.2.2.2.2.2.2 }
theorem sRead_ok  : Contract G Tryz.prog 16 s_sRead :=
  vcFun_okP [(18, 0, s_sSigns), (40, 0, s_qBlank), (41, 0, s_qMem), (42, 0, s_qBlanked), (43, 0, s_qPut), (44, 0, s_sTreeOk)] [(36, ⟨Sg,sgA⟩), (45, ⟨Int,intA⟩), (32, ⟨Nd,ndA true⟩)] false (fun x => [(7, i_sRead  x)]) Tryz.func16 rfl (by decide) ⟨sSigns_ok, qBlank_ok, qMem_ok, qBlanked_ok, qPut_ok, sTreeOk_ok, trivial⟩ (fun (x : List UInt8) => True ∧ cA s_sSigns [.str x] fun x_1 y => bcase (!Option.isSome (sgnsOf x_1)) (rA s_sRead x [.tup [onds [], .int .i64 y.2, .bool false], .top]) (eA (i_sRead x) [.str x, onds [], sgs y.1, .box 0 [sgs y.1, .int .i64 (0 : Int), .bool false, .int .i64 (0 : Int), .nil], oints []] ∧ ∀ (i : List Sg × Int × Int × Bool × List Nd × List Int × List (Int × Int) × Nat), frI x i.1 (iF i.2) i.2.2.2.2.2.1 i.2.2.2.2.2.2.1 i.2.2.2.2.2.2.2 → bcase (!(iF i.2).bad) (bcase (decide ((iF i.2).pos < (↑(List.length i.1) : Int))) (cA s_qBlank [.box 0 [sgs i.1, .int .i64 (iF i.2).pos, .bool (iF i.2).bad, .int .i64 (iF i.2).deep, onds (iF i.2).nodes]] fun x_2 y => bcase (blG x_2.1.sg (xg x_2)) (cA s_qMem [srd x_2.1 (xg x_2), .bool true] fun x_3 y => cA s_qBlanked [srd x_3.1 (yG y.2), .int .i64 y.1, .bool (decide ((↑(List.length i.2.2.2.2.2.1) : Int) > (0 : Int)))] fun x_4 y_1 => ∃ (x_5 : Int), y.1 = x_5 ∧ ∃ (zs : List Int), oints [x_5] = oints zs ∧ leafy intA ∧ room (List.length i.2.2.2.2.2.1 + List.length zs) (8 : Nat) ∧ eN (i_sRead x) i [.str x, onds [], sgs i.1, srd x_4.1 (gBl (xh x_4) x_4.2.2.2.2.2.1 x_4.2.2.2.2.2.2), oints (i.2.2.2.2.2.1 ++ zs)]) (cA s_qMem [srd x_2.1 (xg x_2), .bool true] fun x_3 y => cA s_qBlanked [srd x_3.1 (yG y.2), .int .i64 y.1, .bool false] fun x_4 y_1 => ∃ (x_5 : Int), y.1 = x_5 ∧ ∃ (zs : List Int), oints [x_5] = oints zs ∧ leafy intA ∧ room (List.length i.2.2.2.2.2.1 + List.length zs) (8 : Nat) ∧ eN (i_sRead x) i [.str x, onds [], sgs i.1, srd x_4.1 (gBl (xh x_4) x_4.2.2.2.2.2.1 x_4.2.2.2.2.2.2), oints (i.2.2.2.2.2.1 ++ zs)])) (cA s_qPut [.box 0 [sgs i.1, .int .i64 (iF i.2).pos, .bool (iF i.2).bad, .int .i64 (iF i.2).deep, onds (iF i.2).nodes], .int .i64 (22 : Int), .str #[].toList, oints i.2.2.2.2.2.1] fun x_2 y => bcase (gAdd (xh x_2) { kind := x_2.2.2.2.2.2.1, text := x_2.2.2.2.2.2.2.1, kids := x_2.2.2.2.2.2.2.2, blank := false }).bad (bcase (decide ((gAdd (xh x_2) { kind := x_2.2.2.2.2.2.1, text := x_2.2.2.2.2.2.2.1, kids := x_2.2.2.2.2.2.2.2, blank := false }).pos < (↑(List.length i.1) : Int))) (true = true ∧ true = true ∧ ((0 : Int) ≤ (gAdd (xh x_2) { kind := x_2.2.2.2.2.2.1, text := x_2.2.2.2.2.2.2.1, kids := x_2.2.2.2.2.2.2.2, blank := false }).pos ∧ (gAdd (xh x_2) { kind := x_2.2.2.2.2.2.1, text := x_2.2.2.2.2.2.2.1, kids := x_2.2.2.2.2.2.2.2, blank := false }).pos < (↑(List.length i.1) : Int)) ∧ ∀ (e : Sg), i.1[Int.toNat (gAdd (xh x_2) { kind := x_2.2.2.2.2.2.1, text := x_2.2.2.2.2.2.2.1, kids := x_2.2.2.2.2.2.2.2, blank := false }).pos]? = some e → rA s_sRead x [.tup [onds [], .int .i64 e.pos, .bool false], .top]) (rA s_sRead x [.tup [onds [], .int .i64 (↑(List.length x) : Int), .bool false], .top])) (cA s_sTreeOk [onds (gAdd (xh x_2) { kind := x_2.2.2.2.2.2.1, text := x_2.2.2.2.2.2.2.1, kids := x_2.2.2.2.2.2.2.2, blank := false }).nodes] fun x_3 y => bcase (!treeOk x_3) (rA s_sRead x [.tup [onds [], .int .i64 (0 : Int), .bool false], .top]) (rA s_sRead x [.tup [onds (gAdd (xh x_2) { kind := x_2.2.2.2.2.2.1, text := x_2.2.2.2.2.2.2.1, kids := x_2.2.2.2.2.2.2.2, blank := false }).nodes, .int .i64 (0 : Int), .bool true], .top])))) (cA s_qPut [.box 0 [sgs i.1, .int .i64 (iF i.2).pos, .bool (iF i.2).bad, .int .i64 (iF i.2).deep, onds (iF i.2).nodes], .int .i64 (22 : Int), .str #[].toList, oints i.2.2.2.2.2.1] fun x_2 y => bcase (gAdd (xh x_2) { kind := x_2.2.2.2.2.2.1, text := x_2.2.2.2.2.2.2.1, kids := x_2.2.2.2.2.2.2.2, blank := false }).bad (bcase (decide ((gAdd (xh x_2) { kind := x_2.2.2.2.2.2.1, text := x_2.2.2.2.2.2.2.1, kids := x_2.2.2.2.2.2.2.2, blank := false }).pos < (↑(List.length i.1) : Int))) (true = true ∧ true = true ∧ ((0 : Int) ≤ (gAdd (xh x_2) { kind := x_2.2.2.2.2.2.1, text := x_2.2.2.2.2.2.2.1, kids := x_2.2.2.2.2.2.2.2, blank := false }).pos ∧ (gAdd (xh x_2) { kind := x_2.2.2.2.2.2.1, text := x_2.2.2.2.2.2.2.1, kids := x_2.2.2.2.2.2.2.2, blank := false }).pos < (↑(List.length i.1) : Int)) ∧ ∀ (e : Sg), i.1[Int.toNat (gAdd (xh x_2) { kind := x_2.2.2.2.2.2.1, text := x_2.2.2.2.2.2.2.1, kids := x_2.2.2.2.2.2.2.2, blank := false }).pos]? = some e → rA s_sRead x [.tup [onds [], .int .i64 e.pos, .bool false], .top]) (rA s_sRead x [.tup [onds [], .int .i64 (↑(List.length x) : Int), .bool false], .top])) (cA s_sTreeOk [onds (gAdd (xh x_2) { kind := x_2.2.2.2.2.2.1, text := x_2.2.2.2.2.2.2.1, kids := x_2.2.2.2.2.2.2.2, blank := false }).nodes] fun x_3 y => bcase (!treeOk x_3) (rA s_sRead x [.tup [onds [], .int .i64 (0 : Int), .bool false], .top]) (rA s_sRead x [.tup [onds (gAdd (xh x_2) { kind := x_2.2.2.2.2.2.1, text := x_2.2.2.2.2.2.2.1, kids := x_2.2.2.2.2.2.2.2, blank := false }).nodes, .int .i64 (0 : Int), .bool true], .top]))))) (fun x => by kernel_rfl) fun (x : List UInt8) (hx : x.length < 2 ^ 62) => (by
  dsimp only [cA, eA, eN, i_sRead, ndA_e, nds, oints, onds, osgs, rA, s_qBlank, s_qBlanked, s_qMem, s_qPut, s_sRead, s_sSigns, s_sTreeOk, sgA_e, sgs, srd, hndL, hnd1, mvL, lnL, mvE, lnE, sndL]
  have hx : x.length < 2 ^ 62 := hx
  (repeat' first | (apply ex_sq8 <;> try dsimp only) | (apply ex_sq7 <;> try dsimp only) | (apply ex_sq5 <;> try dsimp only) | (with_reducible first | rfl | exact True.intro | apply inR_i64 | apply And.intro | ((first | apply bcase_dec | apply bcase_bne | apply bcase_beq | apply bcase_not) <;> intro _)) | (apply bcase_intro <;> intro _) | apply sl_eq | refine ex_flip () ?_ ?_ | ((first | apply ex_flip10 | apply ex_flip9 | apply ex_flip8 | apply ex_flip7 | apply ex_flip6 | apply ex_flip5 | apply ex_flip4 | apply ex_flip3 | apply ex_flip2) <;> try dsimp only) | apply ex_flip | (refine Prod.forall.2 ?_; intro _; try dsimp only) | (intro _; try dsimp only))
  all_goals (try dsimp only [xg, xh, yG, yS, iG, iF] at *)
  all_goals (try simp only [gs_eta] at *)
  all_goals first
    | (show Nat; skip)
    | (show List (Int × Int); skip)
    | rfl
    | exact hx
    | exact fr_0 (by assumption) (by assumption)
    | (rw [rd_sg (by assumption)]; rfl)
    | (rw [rd_sg (by assumption)]; exact okN_0)
    | exact (fr_g (by assumption) (by assumption) (by assumption) (by assumption) (bl_t (by assumption))).1
    | exact (fr_g (by assumption) (by assumption) (by assumption) (by assumption) (bl_f (by assumption))).1
    | exact fr_ok (s := ⟨_, 0, []⟩) (by assumption)
    | exact (okQ_D (fr_ok (s := ⟨_, 0, []⟩) (by assumption))).1
    | exact fn_4 (okQ_D (fr_ok (s := ⟨_, 0, []⟩) (by assumption))).1 (by assumption)
    | exact nod_bk BL_mem (by assumption)
    | exact nod_bk BL_mem (by assumption) (by assumption)
    | assumption
    | omega
    | exact (fr_nds (by assumption)).1
    | exact (fr_nds (by assumption)).2.1
    | (rw [fr_bad (by assumption) (frE_b (by assumption)) (by assumption)]; rfl)
    | (rw [fr_bad (by assumption) (frE_b (by assumption)) (by assumption)]; exact okN_0)
    | (rw [(fr_tr (by assumption) (frE_b (by assumption)) (by assumption)).1 (by assumption)]; rfl)
    | (rw [(fr_tr (by assumption) (frE_b (by assumption)) (by assumption)).2 (by assumption)]; rfl)
    | (rw [(fr_tr (by assumption) (frE_b (by assumption)) (by assumption)).1 (by assumption)]; exact okN_0)
    | (rw [(fr_tr (by assumption) (frE_b (by assumption)) (by assumption)).2 (by assumption)]; exact (fr_nds (by assumption)).1)
    | (rw [fr_bad (by assumption) (frE_e (by assumption)) (by assumption)]; rfl)
    | (rw [fr_bad (by assumption) (frE_e (by assumption)) (by assumption)]; exact okN_0)
    | (rw [(fr_tr (by assumption) (frE_e (by assumption)) (by assumption)).1 (by assumption)]; rfl)
    | (rw [(fr_tr (by assumption) (frE_e (by assumption)) (by assumption)).2 (by assumption)]; rfl)
    | (rw [(fr_tr (by assumption) (frE_e (by assumption)) (by assumption)).1 (by assumption)]; exact okN_0)
    | (rw [(fr_tr (by assumption) (frE_e (by assumption)) (by assumption)).2 (by assumption)]; exact (fr_nds (by assumption)).1)
    | (have hq := (fr_nds (show frI _ _ _ _ _ _ by assumption)).2.2; omega)
    | exact okN_0
    | (simp [room]; done)
    | (have hq := fr_ks (show frI _ _ _ _ _ _ by assumption); (try simp only [room, List.length_append, List.length_cons, List.length_nil]); omega)
    | skip
  all_goals first
    | exact (fr_g (by assumption) (by assumption) (by assumption) (by assumption) (bl_t (by assumption))).2
    | exact (fr_g (by assumption) (by assumption) (by assumption) (by assumption) (bl_f (by assumption))).2
    | rfl
    | skip)
end Go.My
end
