/- A text made of bytes. -/
import Derived.Test.YtinkjpfkemkhaaaDoorEngF
import Derived.Laws.BytesString
set_option linter.unusedVariables false
set_option linter.unusedSimpArgs false
namespace Go.Eng

def bytA : UInt8 → List AV := fun c => [.int .u8 c.toNat]
theorem rows_bytes {Z : FP} {w : World} : ∀ (l : List UInt8) (cs : List Value) (S : FP), Rows 1 (fun x cs A => rel0L Z w (bytA x) cs A) l cs S →
    ∃ rest, cs = (l.map fun c => Value.int .u8 c.toNat) ++ rest
  | [], cs, S, h => ⟨cs, rfl⟩
  | c :: l, cs, S, h => by
    obtain ⟨A, B, hj, hl, h1, h2⟩ := h
    obtain ⟨rest, hr⟩ := rows_bytes l _ B h2
    simp only [bytA, rel0L] at h1
    obtain ⟨v, cs', A1, A2, e, hj1, h3, h4, h5⟩ := h1
    simp only [rel0] at h3
    refine ⟨rest, ?_⟩
    have : cs = cs.take 1 ++ cs.drop 1 := (List.take_append_drop 1 cs).symm
    rw [this, e, h3.1, h4, hr]; rfl
theorem push_bytes : ∀ (l : List UInt8) (r : ByteArray), (l.map fun c => ((c.toNat : Nat) : Int)).foldl (fun r n => r.push (UInt8.ofNat n.toNat)) r = ⟨r.data ++ l.toArray⟩
  | [], r => by simp
  | c :: l, r => by
    simp only [List.map_cons, List.foldl_cons]
    rw [push_bytes l]
    apply ByteArray.ext
    simp [ByteArray.push]
theorem run_bytes {P : Program} {Z : FP} {w w' : World} (hw : Sees w w') {own : Bool} {id : Nat} {l : List UInt8} {v : Value} {S : FP} (h : rel0 Z w (.sl own id 1 UInt8 bytA l) v S) :
    ∃ a n c, v = .slice a n c ∧ (Conv.bytesToString v).run P w' = .ok (.string ⟨l.toArray⟩) w' := by
  simp only [rel0] at h
  obtain ⟨a, n, c, hv, hn, hc, h⟩ := h
  refine ⟨a, n, c, hv, ?_⟩
  subst hv
  have some_case : ∀ b off arr ty fr S1, a = some ⟨b, off, none⟩ → w.heap[b]? = some (.cells arr ty fr) → Rows 1 (fun x cs A => rel0L Z w (bytA x) cs A) l (arr.toList.drop off) S1 →
      (Conv.bytesToString (.slice a n c)).run P w' = .ok (.string ⟨l.toArray⟩) w' := by
    intro b off arr ty fr S1 ha hb hr
    obtain ⟨rest, hd⟩ := rows_bytes l _ _ hr
    subst ha
    have hl := run_loadCells (P := P) (hw.blk hb) hd
    rw [List.length_map, ← hn] at hl
    have := run_bytesToString (P := P) w' ⟨b, off, none⟩ n c (l.map fun c => ((c.toNat : Nat) : Int)) (by rw [List.map_map]; exact hl)
    rw [this, push_bytes]
    congr 2
    apply ByteArray.ext
    simp
  have nil_case : l = [] → (Conv.bytesToString (.slice a n c)).run P w' = .ok (.string ⟨l.toArray⟩) w' := by
    intro hl
    subst hl
    simp at hn
    subst hn
    cases a with
    | none => rfl
    | some ad =>
      have := run_bytesToString (P := P) w' ad 0 c [] (by simp [loadCells, loadCellsFrom])
      rw [this]; rfl
  rcases h with ⟨_, h⟩ | ⟨_, _, h⟩
  · rcases h with ⟨_, h0, _⟩ | ⟨b, off, arr, ty, S1, ha, hb, hsz, hr, hj⟩
    · exact nil_case (List.length_eq_zero_iff.1 (by omega))
    · exact some_case b off arr ty (0, 0) S1 ha hb hr
  · rcases h with h | ⟨b, off, arr, ty, fr, ha, hz, hb, hr⟩
    · exact nil_case h
    · exact some_case b off arr ty fr S ha hb hr
end Go.Eng
