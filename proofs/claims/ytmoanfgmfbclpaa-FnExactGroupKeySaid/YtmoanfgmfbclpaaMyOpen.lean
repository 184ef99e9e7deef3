/- The laws' arguments opened. -/
import Derived.Test.YtmoanfgmfbclpaaMyGK
import Derived.Test.YtmoanfgmfbclpaaEngZ
set_option linter.unusedVariables false
namespace Go.My
open Go.Eng Go.Proofs

theorem opens_ints : Opens Try.prog 23 (fun l : List Int => [ints l]) (fun l => l.length < 2 ^ 63 ∧ ∀ x ∈ l, inR .i64 x) :=
  opens_slice (e := 3) rfl (by kernel_rfl) (by decide) (opens_int rfl)
theorem opens_node : Opens Try.prog 38 (ndA false) smallNd :=
  opens_map (fun x : Int × List UInt8 × List Int × Bool => (⟨x.1, x.2.1, x.2.2.1, x.2.2.2⟩ : Nd)) (opens_st4 (t := 38) (P := Try.prog) (a := fun n => .int .i64 n) (b := .str) (c := ints) (d := .bool)
    (gd := fun _ => True) rfl (by kernel_rfl) ⟨by kernel_rfl, by kernel_rfl⟩ ⟨by kernel_rfl, by kernel_rfl⟩ ⟨by kernel_rfl, by kernel_rfl⟩ ⟨by kernel_rfl, by kernel_rfl⟩ (opens_int (k := .i64) rfl) (opens_str rfl) opens_ints (opens_bool rfl)) (fun _ => rfl) (fun x h => ⟨h.2.1, h.2.2.1.1⟩)
theorem opens_nodes : Opens Try.prog 22 (fun l : List Nd => [nds l]) smallNds :=
  opens_slice (e := 38) rfl (by kernel_rfl) (by decide) opens_node
theorem opens_group : Opens Try.prog 25 (grA false) (fun g => g.notes.length < 2 ^ 63) :=
  opens_map (fun x : List Int × Int => (⟨x.1, x.2⟩ : Gr)) (opens_st2 (t := 25) (P := Try.prog) (a := ints) (b := fun n => .int .i64 n)
    rfl (by kernel_rfl) ⟨by kernel_rfl, by kernel_rfl⟩ ⟨by kernel_rfl, by kernel_rfl⟩ opens_ints (opens_int (k := .i64) rfl)) (fun _ => rfl) (fun x h => h.1.1)
end Go.My
